import Derived.Test.YtajadnlejdpceaaProg
import Derived.Test.YtajadnlejdpceaaTlRule
import Derived.Test.YtajadnlejdpceaaTlU12
import Derived.Test.YtajadnlejdpceaaTwBR0
import Derived.WalkKit
set_option linter.unusedVariables false
set_option linter.unusedSimpArgs false
set_option maxRecDepth 100000
set_option maxHeartbeats 1000000
namespace Go.Proofs.Ytajadnlejdpceaa.Tw
open Go Go.TL Go.Proofs
def Jg (n : Nat) (y8 : (List zB)) (y9 : (List Int)) (y10 : Int) (y11 : Int) : Option ((List zB) × Src) :=
  (some (y8,(⟨y9,y10,y11⟩ : Src)))
def Zx (n : Nat) : Nat → Int → (List zB) → (List Int) → Int → Int → Option (((List zB) × (List Int) × Int × Int) ⊕ ((List zB) × Src))
  | 0,_,_,_,_,_ => none
  | mo12 + 1,y3,y4,y5,y6,y7 => ((zJ n (⟨y5,y6,y7⟩ : Src) 3).bind fun r13 => (bif (decide (y3 < (IntKind.wrap .i64 (11 + r13.1)))) then (bif (decide (y4.length + [(⟨50,(IntKind.wrap .i64 (100 + y3)),1,0,false⟩ : zB)].length ≤ 268435456)) then (Zx n mo12 (IntKind.wrap .i64 (y3 + 1)) (y4 ++ [(⟨50,(IntKind.wrap .i64 (100 + y3)),1,0,false⟩ : zB)]) r13.2.b r13.2.i r13.2.h) else none) else (some (Sum.inl (y4,r13.2.b,r13.2.i,r13.2.h)))))
def JR (n : Nat) (x0 : Src) : Option ((List zB) × Src) :=
  ((Y2 n x0).bind fun r1 => ((zJ n r1.2 12).bind fun r2 => (bif (r2.1 == 0) then ((ze n r2.2 [0,1,99,100]).bind fun r15 => ((ze n r15.2 [0,1,9999]).bind fun r16 => ((ze n r16.2 [(-1),7,8]).bind fun r17 => ((ze n r17.2 [(-1),4,5]).bind fun r18 => (bif (decide (r1.1.length + [(⟨r15.1,r16.1,r17.1,r18.1,false⟩ : zB)].length ≤ 268435456)) then (some ((r1.1 ++ [(⟨r15.1,r16.1,r17.1,r18.1,false⟩ : zB)]),r18.2)) else none))))) else (bif (r2.1 == 1) then ((Zx n n 0 r1.1 r2.2.b r2.2.i r2.2.h).bind fun o => match o with | .inl (y8,y9,y10,y11) => (Jg n y8 y9 y10 y11) | .inr r => some r) else (some (r1.1,r2.2))))))
noncomputable abbrev zBL (k : Nat) := Rg Try.f104 k
theorem zHt (n : Nat) (x0 : Src) (r : (List zB) × Src) (H : JR n x0 = some r) : zK Try.prog 104 [.ptr (CV.frzRow (Src.row x0))] [.val false [.sl true 5 (r.1.map zB.row)]] [(0,(CV.frzRow (Src.row r.2)))] := by
 refine zK.of_body tOk Try.func104 rfl (c := (.seq (zBL 0) (.seq (zBL 1) (.seq (.seq (zBL 2) (.block 0 (.seq (zBL 3) (.cond (.tmp 9) (zBL 4) (.seq (zBL 5) (.cond (.tmp 27) (.seq (zBL 6) (.block 1 (.loop (.seq (.seq (zBL 7) (.cond (.tmp 33) .skip (.exit 1))) (.seq (.block 2 (zBL 9)) (zBL 8)))))) .skip)))))) (.seq (zBL 10) .ret))))) kr (Nat.le_of_ble_eq_true kr) 1 (rs := [.tmp 2]) rfl [] .nil [(false,[.sl true 5 (r.1.map zB.row)])] [] [(0,(CV.frzRow (Src.row r.2)))] fun cx => ?_
 show Tr _ _ _ ⟨43,1,[sA 0 0 3 0],[(0,(CV.frzRow (Src.row x0)))]⟩ _
 unfold JR at H
 refine gA 1 1 1 ?_
 refine rA 1 ?_
 obtain ⟨r1,er1,H⟩ := bs H
 refine LAt.callL tOk [.lend] (f := 158) (av := #[.tmp 5]) (ats := #[92]) (d := (some 6)) (ty := 36) (g := none) kr kr kr [] (zHD n x0 r1 er1) kr (.inl rfl) ?_
 refine LAt.moveU (T := lk tab) (ty := 36) (x := (.tmp 6)) (d := 3) (g := none) false [cL 5 r1.1 zB.row] kr kr kr kr kr ?_
 refine dA 9 1 ?_
 refine tS ?_
 refine rA 1 ?_
 obtain ⟨r2,er2,H⟩ := bs H
 refine LAt.callL tOk [.lend,.rd] (f := 49) (av := #[.tmp 7,.const (.int .i64 12)]) (ats := #[92,3]) (d := (some 8)) (ty := 3) (g := none) kr kr kr [] (zO n r1.2 12 r2 er2) kr (.inl rfl) ?_
 refine dA 265 1 ?_
 refine tB ?_
 refine gA 2 777 1 ?_
 obtain ⟨h1,H⟩ | ⟨h1,H⟩ := bC H
 ·refine nA h1 ?_
  refine gA 2 134217737 1 ?_
  obtain ⟨h2,H⟩ | ⟨h2,H⟩ := bC H
  ·refine nA h2 ?_
   refine tK ?_
   refine gA 2 13 1 ?_
   refine te ?_
   obtain rfl := si H
   exact Fin.ofY _ [(false,[cL 5 r1.1 zB.row])] [] _ [] _ [(0,(CV.frzRow (Src.row r2.2)))] kr rfl rfl rfl kr kr kr kr rfl rfl rfl
  refine tA h2 ?_
  refine gA 1 25 1 ?_
  obtain ⟨o12,eo12,Ho12⟩ := bs H
  clear H
  refine Tr.mid (ι := (List zB) × (List Int) × Int × Int) (fun v => ⟨43,1,[sC 3 (cL 5 v.1 zB.row),sA 0 0 3 0],[(0,[cF 1 v.2.1 zF,cI v.2.2.1,cI v.2.2.2])]⟩) (fun v => Jg n v.1 v.2.1 v.2.2.1 v.2.2.2 = some r) ?_ ?_
  ·refine tB ?_
   refine Tr.loop (ι := Nat × (Int × (List zB) × (List Int) × Int × Int)) (fun v => ⟨43,1,[sI 4 v.2.1,sC 3 (cL 5 v.2.2.1 zB.row),sA 0 0 3 0],[(0,[cF 1 v.2.2.2.1 zF,cI v.2.2.2.2.1,cI v.2.2.2.2.2])]⟩) (fun v => Zx n v.1 v.2.1 v.2.2.1 v.2.2.2.1 v.2.2.2.2.1 v.2.2.2.2.2 = some o12) (fun v => v.1) (n,(0,r1.1,r2.2.b,r2.2.i,r2.2.h)) eo12 (St.sub_of [4,3,0] [0] kr) ?_
   rintro ⟨mo12,y3,y4,y5,y6,y7⟩ H
   have H : Zx n mo12 y3 y4 y5 y6 y7 = some o12 := H
   obtain _ | mo12 := mo12
   ·exact nN H
   rw [Zx] at H
   refine tS ?_
   refine rA 2 ?_
   obtain ⟨r13,er13,H⟩ := bs H
   refine LAt.callL tOk [.lend,.rd] (f := 49) (av := #[.tmp 30,.const (.int .i64 3)]) (ats := #[92,3]) (d := (some 31)) (ty := 3) (g := none) kr kr kr [] (zO n (⟨y5,y6,y7⟩ : Src) 3 r13 er13) kr (.inl rfl) ?_
   refine uA 2 8589934617 1 ?_
   obtain ⟨h3,H⟩ | ⟨h3,H⟩ := bC H
   ·refine nA h3 ?_
    refine Tr.exit ?_
    refine aJ ?_
    obtain rfl := si H
    have H := Ho12
    dsimp only at H
    exact jA (y4,r13.2.b,r13.2.i,r13.2.h) H [3,0] [0]
   refine tA h3 ?_
   refine tK ?_
   refine tS ?_
   refine tB ?_
   refine Tr.at ?_
   refine lA 5 ?_
   obtain ⟨hg14,H⟩ := gs H
   refine LAt.appMU tOk (t := 36) (ty := 36) (e := 60) (x := (.tmp 36)) (y := (.tmp 40)) (d := 41) (g := none) (tI 60) zB.row y4 [(⟨50,(IntKind.wrap .i64 (100 + y3)),1,0,false⟩ : zB)] kr kr kr kr kr kr kr kr kr kr hg14 ?_
   refine LAt.moveU (T := lk tab) (ty := 36) (x := (.tmp 41)) (d := 3) (g := none) false [cL 5 (y4 ++ [(⟨50,(IntKind.wrap .i64 (100 + y3)),1,0,false⟩ : zB)]) zB.row] kr kr kr kr kr ?_
   refine dA 25 1 ?_
   refine eA 3 25 1 ?_
   exact jB mo12 ((IntKind.wrap .i64 (y3 + 1)),(y4 ++ [(⟨50,(IntKind.wrap .i64 (100 + y3)),1,0,false⟩ : zB)]),r13.2.b,r13.2.i,r13.2.h) H [4,3,0] [0]
  rintro ⟨y8,y9,y10,y11⟩ H
  have H : (Jg n y8 y9 y10 y11) = some r := H
  unfold Jg at H
  refine gA 2 13 1 ?_
  refine te ?_
  obtain rfl := si H
  exact Fin.ofY _ [(false,[cL 5 y8 zB.row])] [] _ [] _ [(0,[cF 1 y9 zF,cI y10,cI y11])] kr rfl rfl rfl kr kr kr kr rfl rfl rfl
 refine tA h1 ?_
 refine Tr.at ?_
 refine lA 3 ?_
 obtain ⟨r15,er15,H⟩ := bs H
 refine LAt.callL tOk [.lend,.rd] (f := 51) (av := #[.tmp 12,.tmp 13]) (ats := #[92,38]) (d := (some 14)) (ty := 3) (g := none) kr kr kr [] (zu n r2.2 [0,1,99,100] r15 er15) kr (.inl rfl) ?_
 refine lA 2 ?_
 obtain ⟨r16,er16,H⟩ := bs H
 refine LAt.callL tOk [.lend,.rd] (f := 51) (av := #[.tmp 15,.tmp 16]) (ats := #[92,38]) (d := (some 17)) (ty := 3) (g := none) kr kr kr [] (zu n r15.2 [0,1,9999] r16 er16) kr (.inl rfl) ?_
 refine lA 2 ?_
 obtain ⟨r17,er17,H⟩ := bs H
 refine LAt.callL tOk [.lend,.rd] (f := 51) (av := #[.tmp 18,.tmp 19]) (ats := #[92,38]) (d := (some 20)) (ty := 3) (g := none) kr kr kr [] (zu n r16.2 [(-1),7,8] r17 er17) kr (.inl rfl) ?_
 refine lA 2 ?_
 obtain ⟨r18,er18,H⟩ := bs H
 refine LAt.callL tOk [.lend,.rd] (f := 51) (av := #[.tmp 21,.tmp 22]) (ats := #[92,38]) (d := (some 23)) (ty := 3) (g := none) kr kr kr [] (zu n r17.2 [(-1),4,5] r18 er18) kr (.inl rfl) ?_
 refine lA 2 ?_
 obtain ⟨hg19,H⟩ := gs H
 refine LAt.appMU tOk (t := 36) (ty := 36) (e := 60) (x := (.tmp 11)) (y := (.tmp 25)) (d := 26) (g := none) (tI 60) zB.row r1.1 [(⟨r15.1,r16.1,r17.1,r18.1,false⟩ : zB)] kr kr kr kr kr kr kr kr kr kr hg19 ?_
 refine LAt.moveU (T := lk tab) (ty := 36) (x := (.tmp 26)) (d := 3) (g := none) false [cL 5 (r1.1 ++ [(⟨r15.1,r16.1,r17.1,r18.1,false⟩ : zB)]) zB.row] kr kr kr kr kr ?_
 refine dA 9 1 ?_
 refine gA 2 13 1 ?_
 refine te ?_
 obtain rfl := si H
 exact Fin.ofY _ [(false,[cL 5 (r1.1 ++ [(⟨r15.1,r16.1,r17.1,r18.1,false⟩ : zB)]) zB.row])] [] _ [] _ [(0,(CV.frzRow (Src.row r18.2)))] kr rfl rfl rfl kr kr kr kr rfl rfl rfl
def YU (n : Nat) (r1 : Int × Src) (r3 : Int × Src) (y7 : (List zC)) (y8 : (List Int)) : Option (zD × Int × Src) :=
  (some ((⟨y7,y8⟩ : zD),(IntKind.wrap .i64 (1 + r1.1)),r3.2))
def Zy (n : Nat) : Nat → Int → (List zC) → (List Int) → Option (((List zC) × (List Int)) ⊕ (zD × Int × Src))
  | 0,_,_,_ => none
  | mo9 + 1,y4,y5,y6 => (bif (decide (y4 < 6)) then ((Yb n (⟨y5,y6⟩ : zD) (⟨(IntKind.wrap .i64 (10 + y4)),0,0⟩ : zC)).bind fun r10 => (Zy n mo9 (IntKind.wrap .i64 (y4 + 1)) r10.Rows r10.Pv)) else (some (Sum.inl (y5,y6))))
def JS (n : Nat) (x0 : Src) : Option (zD × Int × Src) :=
  ((zJ n x0 4).bind fun r1 => ((Q8 n r1.2 (IntKind.wrap .i64 (1 + r1.1))).bind fun r2 => ((zJ n r2.2 12).bind fun r3 => (bif (r3.1 == 0) then ((ze n r3.2 [0,1,9,100]).bind fun r14 => ((ze n r14.2 [(-1),0,1,64]).bind fun r15 => ((zJ n r15.2 3).bind fun r16 => (bif (decide (r2.1.Rows.length + [(⟨r14.1,r15.1,r16.1⟩ : zC)].length ≤ 268435456)) then (some ((⟨(r2.1.Rows ++ [(⟨r14.1,r15.1,r16.1⟩ : zC)]),r2.1.Pv⟩ : zD),(IntKind.wrap .i64 (1 + r1.1)),r16.2)) else none)))) else (bif (r3.1 == 1) then ((ze n r3.2 [0,7]).bind fun r12 => ((idx r2.1.Pv 0).bind fun v13 => (some ((⟨r2.1.Rows,(r2.1.Pv.set (((0 : Int)).toNat) r12.1)⟩ : zD),(IntKind.wrap .i64 (1 + r1.1)),r12.2)))) else (bif (r3.1 == 2) then ((ze n r3.2 [0,6,7]).bind fun r11 => (some (r2.1,r11.1,r11.2))) else (bif (r3.1 == 3) then ((Zy n n 0 r2.1.Rows r2.1.Pv).bind fun o => match o with | .inl (y7,y8) => (YU n r1 r3 y7 y8) | .inr r => some r) else (some (r2.1,(IntKind.wrap .i64 (1 + r1.1)),r3.2)))))))))
def zJD : Tab := ⟨15,[0,1,0,0,12,0,0,112,0,384,656,1024,2562,8191,16383],[0,1,0,0,12,0,0,96,0,256,656,1024,2050,0,12288],[0,1,0,0,12,0,0,124,0,508,1020,2044,4095,8191,16383]⟩
noncomputable abbrev Jv (k : Nat) := Rg Try.f105 k
noncomputable abbrev zI8 (k : Nat) := Rd Try.f105 k
theorem qZ : qF (rg Try.f105 5) zJD = true := kr
theorem zGA (n : Nat) (r3 : Int × Src) (r14 : Int × Src) (r15 : Int × Src) (r16 : Int × Src) (r2 : zD × Src) (r1 : Int × Src) (er14 : (ze n r3.2 [0,1,9,100]) = some r14) (er15 : (ze n r14.2 [(-1),0,1,64]) = some r15) (er16 : (zJ n r15.2 3) = some r16) (hg17 : (decide (r2.1.Rows.length + [(⟨r14.1,r15.1,r16.1⟩ : zC)].length ≤ 268435456)) = true) (cx : Cx) : AT Try.prog cx (rg Try.f105 5) [] 15 [] ⟨57,1,[sB 15 (r3.1 == 0),sI 14 r3.1,sA 5 5 2 0,sI 4 (IntKind.wrap .i64 (1 + r1.1)),sA 2 2 2 0,sA 0 0 3 0],[(0,(CV.frzRow (Src.row r3.2))),(5,(zD.row r2.1)),(2,[cL 3 ([] : List zC) zC.row,cL 1 ([] : List Int) intRow])]⟩ (fun s => s = ⟨57,1,[sA 5 5 2 0,sI 4 (IntKind.wrap .i64 (1 + r1.1)),sA 2 2 2 0,sA 0 0 3 0],[(5,[cL 3 (r2.1.Rows ++ [(⟨r14.1,r15.1,r16.1⟩ : zC)]) zC.row,cL 1 r2.1.Pv intRow]),(0,(CV.frzRow (Src.row r16.2))),(2,[cL 3 ([] : List zC) zC.row,cL 1 ([] : List Int) intRow])]⟩) := by
 refine mA qZ [(0,[]),(1,[12,14]),(2,[]),(5,[]),(8,[])] 10 [⟨[12,14],37,17,18⟩] fun cx => ?_
 refine mB2 tOk qZ 3 6 kr (And.intro kr ?_) (And.intro kr ?_)
 ·refine lA 1 ?_
  refine fA ?_
  refine mB2 tOk qZ 4 6 kr (And.intro kr ?_) (And.intro kr ?_)
  ·refine LAt.callL tOk [.lend,.rd] (f := 51) (av := #[.tmp 19,.tmp 20]) (ats := #[92,38]) (d := (some 21)) (ty := 3) (g := none) kr kr kr [] (zu n r3.2 [0,1,9,100] r14 er14) kr (.inl rfl) ?_
   refine fA ?_
   refine mC qZ 6 ?_
   refine lA 1 ?_
   refine fA ?_
   refine mC qZ 7 ?_
   refine LAt.callL tOk [.lend,.rd] (f := 51) (av := #[.tmp 22,.tmp 23]) (ats := #[92,38]) (d := (some 24)) (ty := 3) (g := none) kr kr kr [] (zu n r14.2 [(-1),0,1,64] r15 er15) kr (.inl rfl) ?_
   refine fA ?_
   refine mC qZ 9 ?_
   refine LAt.callL tOk [.lend,.rd] (f := 49) (av := #[.tmp 25,.const (.int .i64 3)]) (ats := #[92,3]) (d := (some 26)) (ty := 3) (g := none) kr kr kr [] (zO n r15.2 3 r16 er16) kr (.inl rfl) ?_
   refine fA ?_
   refine mC qZ 10 ?_
   refine lA 1 ?_
   refine fA ?_
   refine mC qZ 11 ?_
   refine lA 1 ?_
   refine fA ?_
   refine mC qZ 12 ?_
   refine LAt.appMU tOk (t := 37) (ty := 37) (e := 114) (x := (.tmp 18)) (y := (.tmp 28)) (d := 29) (g := none) (tI 114) zC.row r2.1.Rows [(⟨r14.1,r15.1,r16.1⟩ : zC)] kr kr kr kr kr kr kr kr kr kr hg17 ?_
   refine fA ?_
   refine mA qZ [(13,[])] 1 [⟨[12,14],37,17,18⟩] fun cx => ?_
   refine mC qZ 14 ?_
   refine lA 1 ?_
   refine fA ?_
   exact mE qZ [5,4,2,0] [5,0,2]
  ·refine lA 1 ?_
   refine fA ?_
   refine mC qZ 4 ?_
   refine LAt.callL tOk [.lend,.rd] (f := 51) (av := #[.tmp 19,.tmp 20]) (ats := #[92,38]) (d := (some 21)) (ty := 3) (g := none) kr kr kr [] (zu n r3.2 [0,1,9,100] r14 er14) kr (.inl rfl) ?_
   refine fA ?_
   refine mC qZ 7 ?_
   refine LAt.callL tOk [.lend,.rd] (f := 51) (av := #[.tmp 22,.tmp 23]) (ats := #[92,38]) (d := (some 24)) (ty := 3) (g := none) kr kr kr [] (zu n r14.2 [(-1),0,1,64] r15 er15) kr (.inl rfl) ?_
   refine fA ?_
   refine mC qZ 9 ?_
   refine LAt.callL tOk [.lend,.rd] (f := 49) (av := #[.tmp 25,.const (.int .i64 3)]) (ats := #[92,3]) (d := (some 26)) (ty := 3) (g := none) kr kr kr [] (zO n r15.2 3 r16 er16) kr (.inl rfl) ?_
   refine fA ?_
   refine mC qZ 10 ?_
   refine lA 1 ?_
   refine fA ?_
   refine mC qZ 11 ?_
   refine lA 1 ?_
   refine fA ?_
   refine mC qZ 12 ?_
   refine LAt.appMU tOk (t := 37) (ty := 37) (e := 114) (x := (.tmp 18)) (y := (.tmp 28)) (d := 29) (g := none) (tI 114) zC.row r2.1.Rows [(⟨r14.1,r15.1,r16.1⟩ : zC)] kr kr kr kr kr kr kr kr kr kr hg17 ?_
   refine fA ?_
   refine mA qZ [(13,[])] 1 [⟨[12,14],37,17,18⟩] fun cx => ?_
   refine mC qZ 14 ?_
   refine lA 1 ?_
   refine fA ?_
   exact mE qZ [5,4,2,0] [5,0,2]
 ·refine lA 1 ?_
  refine fA ?_
  refine mC qZ 3 ?_
  refine lA 1 ?_
  refine fA ?_
  refine mC qZ 4 ?_
  refine LAt.callL tOk [.lend,.rd] (f := 51) (av := #[.tmp 19,.tmp 20]) (ats := #[92,38]) (d := (some 21)) (ty := 3) (g := none) kr kr kr [] (zu n r3.2 [0,1,9,100] r14 er14) kr (.inl rfl) ?_
  refine fA ?_
  refine mC qZ 7 ?_
  refine LAt.callL tOk [.lend,.rd] (f := 51) (av := #[.tmp 22,.tmp 23]) (ats := #[92,38]) (d := (some 24)) (ty := 3) (g := none) kr kr kr [] (zu n r14.2 [(-1),0,1,64] r15 er15) kr (.inl rfl) ?_
  refine fA ?_
  refine mC qZ 9 ?_
  refine LAt.callL tOk [.lend,.rd] (f := 49) (av := #[.tmp 25,.const (.int .i64 3)]) (ats := #[92,3]) (d := (some 26)) (ty := 3) (g := none) kr kr kr [] (zO n r15.2 3 r16 er16) kr (.inl rfl) ?_
  refine fA ?_
  refine mC qZ 10 ?_
  refine lA 1 ?_
  refine fA ?_
  refine mC qZ 11 ?_
  refine lA 1 ?_
  refine fA ?_
  refine mC qZ 12 ?_
  refine LAt.appMU tOk (t := 37) (ty := 37) (e := 114) (x := (.tmp 18)) (y := (.tmp 28)) (d := 29) (g := none) (tI 114) zC.row r2.1.Rows [(⟨r14.1,r15.1,r16.1⟩ : zC)] kr kr kr kr kr kr kr kr kr kr hg17 ?_
  refine fA ?_
  refine mA qZ [(13,[])] 1 [⟨[12,14],37,17,18⟩] fun cx => ?_
  refine mC qZ 14 ?_
  refine lA 1 ?_
  refine fA ?_
  exact mE qZ [5,4,2,0] [5,0,2]
theorem zHu (n : Nat) (x0 : Src) (r : zD × Int × Src) (H : JS n x0 = some r) : zK Try.prog 105 [.ptr (CV.frzRow (Src.row x0))] [.val true (zD.row r.1),.val false [.lit (.int .i64 r.2.1)]] [(0,(CV.frzRow (Src.row r.2.2)))] := by
 refine zK.of_body tOk Try.func105 rfl (c := (.seq (Jv 0) (.seq (Jv 1) (.seq (Jv 2) (.seq (.seq (Jv 3) (.block 0 (.seq (Jv 4) (.cond (.tmp 15) (zI8 5) (.seq (Jv 6) (.cond (.tmp 31) (zI8 7) (.seq (Jv 8) (.cond (.tmp 39) (Jv 9) (.seq (Jv 10) (.cond (.tmp 44) (.seq (Jv 11) (.block 1 (.loop (.seq (.seq (Jv 12) (.cond (.tmp 47) .skip (.exit 1))) (.seq (.block 2 (Jv 14)) (Jv 13)))))) .skip)))))))))) (.seq (Jv 15) .ret)))))) kr (Nat.le_of_ble_eq_true kr) 1 (rs := [.cell 2 40,.tmp 3]) rfl [] .nil [(true,(zD.row r.1)),(false,[.lit (.int .i64 r.2.1)])] [] [(0,(CV.frzRow (Src.row r.2.2)))] fun cx => ?_
 show Tr _ _ _ ⟨57,1,[sA 0 0 3 0],[(0,(CV.frzRow (Src.row x0)))]⟩ _
 unfold JS at H
 refine gA 2 5 5 ?_
 refine rA 1 ?_
 obtain ⟨r1,er1,H⟩ := bs H
 refine LAt.callL tOk [.lend,.rd] (f := 49) (av := #[.tmp 7,.const (.int .i64 4)]) (ats := #[92,3]) (d := (some 8)) (ty := 3) (g := none) kr kr kr [] (zO n x0 4 r1 er1) kr (.inl rfl) ?_
 refine uA 2 21 5 ?_
 refine rA 2 ?_
 obtain ⟨r2,er2,H⟩ := bs H
 refine LAt.callL tOk [.lend,.rd] (f := 97) (av := #[.tmp 10,.tmp 11]) (ats := #[92,3]) (d := (some 12)) (ty := 40) (g := none) kr kr kr [] (zEA n r1.2 (IntKind.wrap .i64 (1 + r1.1)) r2 er2) kr (.inl rfl) ?_
 refine uA 2 53 37 ?_
 refine tS ?_
 refine rA 1 ?_
 obtain ⟨r3,er3,H⟩ := bs H
 refine LAt.callL tOk [.lend,.rd] (f := 49) (av := #[.tmp 13,.const (.int .i64 12)]) (ats := #[92,3]) (d := (some 14)) (ty := 3) (g := none) kr kr kr [] (zO n r2.2 12 r3 er3) kr (.inl rfl) ?_
 refine dA 16437 37 ?_
 refine tB ?_
 refine gA 2 49205 37 ?_
 obtain ⟨h1,H⟩ | ⟨h1,H⟩ := bC H
 ·refine nA h1 ?_
  refine gA 2 2147500085 37 ?_
  obtain ⟨h2,H⟩ | ⟨h2,H⟩ := bC H
  ·refine nA h2 ?_
   refine gA 2 549755830325 37 ?_
   obtain ⟨h3,H⟩ | ⟨h3,H⟩ := bC H
   ·refine nA h3 ?_
    refine gA 2 17592186044469 37 ?_
    obtain ⟨h4,H⟩ | ⟨h4,H⟩ := bC H
    ·refine nA h4 ?_
     refine tK ?_
     refine gA 4 13 5 ?_
     refine te ?_
     obtain rfl := si H
     exact Fin.ofY _ [(true,(zD.row r2.1)),(false,[cI (IntKind.wrap .i64 (1 + r1.1))])] [] _ [] _ [(0,(CV.frzRow (Src.row r3.2)))] kr rfl rfl rfl kr kr kr kr rfl rfl rfl
    refine tA h4 ?_
    refine gA 1 117 37 ?_
    obtain ⟨o9,eo9,Ho9⟩ := bs H
    clear H
    refine Tr.mid (ι := (List zC) × (List Int)) (fun v => ⟨57,1,[sA 5 5 2 0,sI 4 (IntKind.wrap .i64 (1 + r1.1)),sA 2 2 2 0,sA 0 0 3 0],[(0,(CV.frzRow (Src.row r3.2))),(5,[cL 3 v.1 zC.row,cL 1 v.2 intRow]),(2,[cL 3 ([] : List zC) zC.row,cL 1 ([] : List Int) intRow])]⟩) (fun v => YU n r1 r3 v.1 v.2 = some r) ?_ ?_
    ·refine tB ?_
     refine Tr.loop (ι := Nat × (Int × (List zC) × (List Int))) (fun v => ⟨57,1,[sI 6 v.2.1,sA 5 5 2 0,sI 4 (IntKind.wrap .i64 (1 + r1.1)),sA 2 2 2 0,sA 0 0 3 0],[(0,(CV.frzRow (Src.row r3.2))),(5,[cL 3 v.2.2.1 zC.row,cL 1 v.2.2.2 intRow]),(2,[cL 3 ([] : List zC) zC.row,cL 1 ([] : List Int) intRow])]⟩) (fun v => Zy n v.1 v.2.1 v.2.2.1 v.2.2.2 = some o9) (fun v => v.1) (n,(0,r2.1.Rows,r2.1.Pv)) eo9 (St.sub_of [6,5,4,2,0] [0,5,2] kr) ?_
     rintro ⟨mo9,y4,y5,y6⟩ H
     have H : Zy n mo9 y4 y5 y6 = some o9 := H
     obtain _ | mo9 := mo9
     ·exact nN H
     rw [Zy] at H
     refine tS ?_
     refine gA 2 0x800000000075 37 ?_
     obtain ⟨h5,H⟩ | ⟨h5,H⟩ := bC H
     ·refine nA h5 ?_
      refine Tr.exit ?_
      refine aJ ?_
      obtain rfl := si H
      have H := Ho9
      dsimp only at H
      exact jA (y5,y6) H [5,4,2,0] [0,5,2]
     refine tA h5 ?_
     refine tK ?_
     refine tS ?_
     refine tB ?_
     refine Tr.at ?_
     refine lA 4 ?_
     obtain ⟨r10,er10,H⟩ := bs H
     refine vB [.rd,.rd] [.box 5] (zE9 n (⟨y5,y6⟩ : zD) (⟨(IntKind.wrap .i64 (10 + y4)),0,0⟩ : zC) r10 er10) (.inr (zZ (zD.row_mine _) zq)) ?_
     refine uA 1 117 37 ?_
     refine eA 3 117 37 ?_
     exact jB mo9 ((IntKind.wrap .i64 (y4 + 1)),r10.Rows,r10.Pv) H [6,5,4,2,0] [0,5,2]
    rintro ⟨y7,y8⟩ H
    have H : (YU n r1 r3 y7 y8) = some r := H
    unfold YU at H
    refine gA 4 13 5 ?_
    refine te ?_
    obtain rfl := si H
    exact Fin.ofY _ [(true,[cL 3 y7 zC.row,cL 1 y8 intRow]),(false,[cI (IntKind.wrap .i64 (1 + r1.1))])] [] _ [] _ [(0,(CV.frzRow (Src.row r3.2)))] kr rfl rfl rfl kr kr kr kr rfl rfl rfl
   refine tA h3 ?_
   refine Tr.at ?_
   refine lA 2 ?_
   obtain ⟨r11,er11,H⟩ := bs H
   refine LAt.callL tOk [.lend,.rd] (f := 51) (av := #[.tmp 41,.tmp 42]) (ats := #[92,38]) (d := (some 43)) (ty := 3) (g := none) kr kr kr [] (zu n r3.2 [0,6,7] r11 er11) kr (.inl rfl) ?_
   refine uA 1 53 37 ?_
   refine gA 4 13 5 ?_
   refine te ?_
   obtain rfl := si H
   exact Fin.ofY _ [(true,(zD.row r2.1)),(false,[cI r11.1])] [] _ [] _ [(0,(CV.frzRow (Src.row r11.2)))] kr rfl rfl rfl kr kr kr kr rfl rfl rfl
  refine tA h2 ?_
  obtain ⟨r12,er12,H⟩ := bs H
  obtain ⟨v13,ev13,H⟩ := bs H
  refine Tr.draw mixed 7 kr ⟨57,1,[sA 5 5 2 0,sI 4 (IntKind.wrap .i64 (1 + r1.1)),sA 2 2 2 0,sA 0 0 3 0],[(5,[cL 3 r2.1.Rows zC.row,cL 1 (r2.1.Pv.set (((0 : Int)).toNat) r12.1) intRow]),(0,(CV.frzRow (Src.row r12.2))),(2,[cL 3 ([] : List zC) zC.row,cL 1 ([] : List Int) intRow])]⟩ (fun cx => ?_) ?_
  ·refine aA [(0,[]),(1,[6]),(2,[])] 4 [⟨[6],38,33,34⟩] fun cx => ?_
   refine bA 3 ?_
   refine lA 1 ?_
   refine fA ?_
   refine bA 4 ?_
   refine LAt.callL tOk [.lend,.rd] (f := 51) (av := #[.tmp 35,.tmp 36]) (ats := #[92,38]) (d := (some 37)) (ty := 3) (g := none) kr kr kr [] (zu n r3.2 [0,7] r12 er12) kr (.inl rfl) ?_
   refine fA ?_
   refine AT.indexO tOk 5 (t := 38) (ty := 0) (x := (.tmp 34)) (y := (.const (.int .i64 0))) (d := 38) (g := none) ⟨(.box 5),[(0,0)],1,true,1,(r2.1.Pv.map intRow)⟩ 0 (((0 : Int)).toNat) (intRow v13) _ kr kr kr kr kr kr rfl kr (zDa ev13) rfl rfl (fun cx => ?_)
   refine bA 6 ?_
   refine LAt.storeB tOk (t := 3) (ty := 0) (ad := (.tmp 38)) (x := (.tmp 37)) (g := none) (tI 3) false [cI r12.1] 5 1 (((0 : Int)).toNat) 1 0 1 r2.1.Pv intRow v13 r12.1 kr kr kr kr kr kr kr kr (qc ev13).2 kr kr kr kr ?_
   refine fA ?_
   exact eE [5,4,2,0] [5,0,2]
  refine gA 4 13 5 ?_
  refine te ?_
  obtain rfl := si H
  exact Fin.ofY _ [(true,[cL 3 r2.1.Rows zC.row,cL 1 (r2.1.Pv.set (((0 : Int)).toNat) r12.1) intRow]),(false,[cI (IntKind.wrap .i64 (1 + r1.1))])] [] _ [] _ [(0,(CV.frzRow (Src.row r12.2)))] kr rfl rfl rfl kr kr kr kr rfl rfl rfl
 refine tA h1 ?_
 obtain ⟨r14,er14,H⟩ := bs H
 obtain ⟨r15,er15,H⟩ := bs H
 obtain ⟨r16,er16,H⟩ := bs H
 obtain ⟨hg17,H⟩ := gs H
 refine sT ⟨57,1,[sB 15 (r3.1 == 0),sI 14 r3.1,sA 5 5 2 0,sI 4 (IntKind.wrap .i64 (1 + r1.1)),sA 2 2 2 0,sA 0 0 3 0],[(0,(CV.frzRow (Src.row r3.2))),(5,(zD.row r2.1)),(2,[cL 3 ([] : List zC) zC.row,cL 1 ([] : List Int) intRow])]⟩ ?_
 refine Tr.draw mixed 15 kr ⟨57,1,[sA 5 5 2 0,sI 4 (IntKind.wrap .i64 (1 + r1.1)),sA 2 2 2 0,sA 0 0 3 0],[(5,[cL 3 (r2.1.Rows ++ [(⟨r14.1,r15.1,r16.1⟩ : zC)]) zC.row,cL 1 r2.1.Pv intRow]),(0,(CV.frzRow (Src.row r16.2))),(2,[cL 3 ([] : List zC) zC.row,cL 1 ([] : List Int) intRow])]⟩ (zGA n r3 r14 r15 r16 r2 r1 er14 er15 er16 hg17) ?_
 refine gA 4 13 5 ?_
 refine te ?_
 obtain rfl := si H
 exact Fin.ofY _ [(true,[cL 3 (r2.1.Rows ++ [(⟨r14.1,r15.1,r16.1⟩ : zC)]) zC.row,cL 1 r2.1.Pv intRow]),(false,[cI (IntKind.wrap .i64 (1 + r1.1))])] [] _ [] _ [(0,(CV.frzRow (Src.row r16.2)))] kr rfl rfl rfl kr kr kr kr rfl rfl rfl
def Y0 (n : Nat) (x0 : Src) : Option (zA × Src) :=
  ((Qs n x0).bind fun r1 => ((zJ n r1.2 16).bind fun r2 => (bif (r2.1 == 0) then ((ze n r2.2 [0,99,100]).bind fun r8 => (some ((⟨r8.1,r1.1.Name,r1.1.Ps,r1.1.F,r1.1.V,r1.1.Tk,r1.1.Pa,r1.1.Wo,r1.1.Dr,r1.1.Ve⟩ : zA),r8.2))) else (bif (r2.1 == 1) then ((QW n r2.2 [(⟨#[116,101,110,45,98,121,116,101,115,45]⟩ : ByteArray),(⟨#[101,108,101,118,101,110,45,98,121,116,101]⟩ : ByteArray)]).bind fun r7 => (some ((⟨r1.1.Id,r7.1,r1.1.Ps,r1.1.F,r1.1.V,r1.1.Tk,r1.1.Pa,r1.1.Wo,r1.1.Dr,r1.1.Ve⟩ : zA),r7.2))) else (bif (r2.1 == 2) then ((Yy n r2.2).bind fun r6 => (some ((⟨r1.1.Id,r1.1.Name,r6.1,r1.1.F,r1.1.V,r1.1.Tk,r1.1.Pa,r1.1.Wo,r1.1.Dr,r1.1.Ve⟩ : zA),r6.2))) else (bif (r2.1 == 3) then ((JR n r2.2).bind fun r5 => (some ((⟨r1.1.Id,r1.1.Name,r1.1.Ps,r5.1,r1.1.V,r1.1.Tk,r1.1.Pa,r1.1.Wo,r1.1.Dr,r1.1.Ve⟩ : zA),r5.2))) else (bif (r2.1 == 4) then ((JS n r2.2).bind fun r4 => (some ((⟨r1.1.Id,r1.1.Name,r1.1.Ps,r1.1.F,r4.1,r1.1.Tk,r1.1.Pa,r1.1.Wo,r1.1.Dr,r1.1.Ve⟩ : zA),r4.2.2))) else (bif (r2.1 == 5) then ((ze n r2.2 [(-1),1000000,1000001]).bind fun r3 => (some ((⟨r1.1.Id,r1.1.Name,r1.1.Ps,r1.1.F,r1.1.V,r1.1.Tk,r1.1.Pa,r1.1.Wo,r3.1,r1.1.Ve⟩ : zA),r3.2))) else (some (r1.1,r2.2))))))))))
noncomputable abbrev G50 (k : Nat) := Rg Try.f50 k
theorem zHC (n : Nat) (x0 : Src) (r : zA × Src) (H : Y0 n x0 = some r) : zK Try.prog 50 [.ptr (CV.frzRow (Src.row x0))] [.val true (zA.row r.1)] [(0,(CV.frzRow (Src.row r.2)))] := by
 refine zK.of_body tOk Try.func50 rfl (c := (.seq (G50 0) (.seq (G50 1) (.seq (.seq (G50 2) (.block 0 (.seq (G50 3) (.cond (.tmp 8) (G50 4) (.seq (G50 5) (.cond (.tmp 14) (G50 6) (.seq (G50 7) (.cond (.tmp 20) (G50 8) (.seq (G50 9) (.cond (.tmp 25) (G50 10) (.seq (G50 11) (.cond (.tmp 30) (G50 12) (.seq (G50 13) (.cond (.tmp 38) (G50 14) .skip)))))))))))))) (.seq (G50 15) .ret))))) kr (Nat.le_of_ble_eq_true kr) 1 (rs := [.cell 2 42]) rfl [] .nil [(true,(zA.row r.1))] [] [(0,(CV.frzRow (Src.row r.2)))] fun cx => ?_
 show Tr _ _ _ ⟨45,1,[sA 0 0 3 0],[(0,(CV.frzRow (Src.row x0)))]⟩ _
 unfold Y0 at H
 refine gA 1 5 5 ?_
 refine rA 1 ?_
 obtain ⟨r1,er1,H⟩ := bs H
 refine LAt.callL tOk [.lend] (f := 48) (av := #[.tmp 4]) (ats := #[92]) (d := (some 5)) (ty := 42) (g := none) kr kr kr [] (zDR n x0 r1 er1) kr (.inl rfl) ?_
 refine uA 2 13 13 ?_
 refine tS ?_
 refine rA 1 ?_
 obtain ⟨r2,er2,H⟩ := bs H
 refine LAt.callL tOk [.lend,.rd] (f := 49) (av := #[.tmp 6,.const (.int .i64 16)]) (ats := #[92,3]) (d := (some 7)) (ty := 3) (g := none) kr kr kr [] (zO n r1.2 16 r2 er2) kr (.inl rfl) ?_
 refine dA 141 13 ?_
 refine tB ?_
 refine gA 2 397 13 ?_
 obtain ⟨h1,H⟩ | ⟨h1,H⟩ := bC H
 ·refine nA h1 ?_
  refine gA 2 16525 13 ?_
  obtain ⟨h2,H⟩ | ⟨h2,H⟩ := bC H
  ·refine nA h2 ?_
   refine gA 2 1048717 13 ?_
   obtain ⟨h3,H⟩ | ⟨h3,H⟩ := bC H
   ·refine nA h3 ?_
    refine gA 2 33554573 13 ?_
    obtain ⟨h4,H⟩ | ⟨h4,H⟩ := bC H
    ·refine nA h4 ?_
     refine gA 2 1073741965 13 ?_
     obtain ⟨h5,H⟩ | ⟨h5,H⟩ := bC H
     ·refine nA h5 ?_
      refine gA 2 274877906957 13 ?_
      obtain ⟨h6,H⟩ | ⟨h6,H⟩ := bC H
      ·refine nA h6 ?_
       refine tK ?_
       refine gA 2 5 5 ?_
       refine te ?_
       obtain rfl := si H
       exact Fin.ofY _ [(true,(zA.row r1.1))] [] _ [] _ [(0,(CV.frzRow (Src.row r2.2)))] kr rfl rfl rfl kr kr kr kr rfl rfl rfl
      refine tA h6 ?_
      refine Tr.at ?_
      refine lA 2 ?_
      obtain ⟨r3,er3,H⟩ := bs H
      refine LAt.callL tOk [.lend,.rd] (f := 51) (av := #[.tmp 40,.tmp 41]) (ats := #[92,38]) (d := (some 42)) (ty := 3) (g := none) kr kr kr [] (zu n r2.2 [(-1),1000000,1000001] r3 er3) kr (.inl rfl) ?_
      refine uA 2 13 13 ?_
      refine gA 2 5 5 ?_
      refine te ?_
      obtain rfl := si H
      exact Fin.ofY _ [(true,[cI r1.1.Id,cS r1.1.Name,cL 8 r1.1.Ps Pt.row,cL 5 r1.1.F zB.row,cL 3 r1.1.V.Rows zC.row,cL 1 r1.1.V.Pv intRow,cI r1.1.Tk,cI r1.1.Pa,cI r1.1.Wo,cI r3.1,cI r1.1.Ve])] [] _ [] _ [(0,(CV.frzRow (Src.row r3.2)))] kr rfl rfl rfl kr kr kr kr rfl rfl rfl
     refine tA h5 ?_
     refine Tr.at ?_
     refine lA 1 ?_
     obtain ⟨r4,er4,H⟩ := bs H
     refine LAt.callL tOk [.lend] (f := 105) (av := #[.tmp 33]) (ats := #[92]) (d := (some 34)) (ty := 152) (g := none) kr kr kr [] (zHu n r2.2 r4 er4) kr (.inl rfl) ?_
     refine LAt.movT tOk (ty := 152) (t := 34) (d := 32) (g := none) [(true,(zD.row r4.1)),(false,[cI r4.2.1])] _ kr (.inl rfl) kr kr kr kr rfl ?_
     refine uA 4 13 13 ?_
     refine gA 2 5 5 ?_
     refine te ?_
     obtain rfl := si H
     exact Fin.ofY _ [(true,[cI r1.1.Id,cS r1.1.Name,cL 8 r1.1.Ps Pt.row,cL 5 r1.1.F zB.row,cL 3 r4.1.Rows zC.row,cL 1 r4.1.Pv intRow,cI r1.1.Tk,cI r1.1.Pa,cI r1.1.Wo,cI r1.1.Dr,cI r1.1.Ve])] [] _ [] _ [(0,(CV.frzRow (Src.row r4.2.2)))] kr rfl rfl rfl kr kr kr kr rfl rfl rfl
    refine tA h4 ?_
    refine Tr.at ?_
    refine lA 1 ?_
    obtain ⟨r5,er5,H⟩ := bs H
    refine LAt.callL tOk [.lend] (f := 104) (av := #[.tmp 27]) (ats := #[92]) (d := (some 28)) (ty := 36) (g := none) kr kr kr [] (zHt n r2.2 r5 er5) kr (.inl rfl) ?_
    refine uA 2 13 13 ?_
    refine gA 2 5 5 ?_
    refine te ?_
    obtain rfl := si H
    exact Fin.ofY _ [(true,[cI r1.1.Id,cS r1.1.Name,cL 8 r1.1.Ps Pt.row,cL 5 r5.1 zB.row,cL 3 r1.1.V.Rows zC.row,cL 1 r1.1.V.Pv intRow,cI r1.1.Tk,cI r1.1.Pa,cI r1.1.Wo,cI r1.1.Dr,cI r1.1.Ve])] [] _ [] _ [(0,(CV.frzRow (Src.row r5.2)))] kr rfl rfl rfl kr kr kr kr rfl rfl rfl
   refine tA h3 ?_
   refine Tr.at ?_
   refine lA 1 ?_
   obtain ⟨r6,er6,H⟩ := bs H
   refine LAt.callL tOk [.lend] (f := 103) (av := #[.tmp 22]) (ats := #[92]) (d := (some 23)) (ty := 35) (g := none) kr kr kr [] (zHB n r2.2 r6 er6) kr (.inl rfl) ?_
   refine uA 2 13 13 ?_
   refine gA 2 5 5 ?_
   refine te ?_
   obtain rfl := si H
   exact Fin.ofY _ [(true,[cI r1.1.Id,cS r1.1.Name,cL 8 r6.1 Pt.row,cL 5 r1.1.F zB.row,cL 3 r1.1.V.Rows zC.row,cL 1 r1.1.V.Pv intRow,cI r1.1.Tk,cI r1.1.Pa,cI r1.1.Wo,cI r1.1.Dr,cI r1.1.Ve])] [] _ [] _ [(0,(CV.frzRow (Src.row r6.2)))] kr rfl rfl rfl kr kr kr kr rfl rfl rfl
  refine tA h2 ?_
  refine Tr.at ?_
  refine lA 2 ?_
  obtain ⟨r7,er7,H⟩ := bs H
  refine LAt.callL tOk [.lend,.rd] (f := 95) (av := #[.tmp 16,.tmp 17]) (ats := #[92,142]) (d := (some 18)) (ty := 9) (g := none) kr kr kr [] (zE5 n r2.2 [(⟨#[116,101,110,45,98,121,116,101,115,45]⟩ : ByteArray),(⟨#[101,108,101,118,101,110,45,98,121,116,101]⟩ : ByteArray)] r7 er7) kr (.inl rfl) ?_
  refine uA 2 13 13 ?_
  refine gA 2 5 5 ?_
  refine te ?_
  obtain rfl := si H
  exact Fin.ofY _ [(true,[cI r1.1.Id,cS r7.1,cL 8 r1.1.Ps Pt.row,cL 5 r1.1.F zB.row,cL 3 r1.1.V.Rows zC.row,cL 1 r1.1.V.Pv intRow,cI r1.1.Tk,cI r1.1.Pa,cI r1.1.Wo,cI r1.1.Dr,cI r1.1.Ve])] [] _ [] _ [(0,(CV.frzRow (Src.row r7.2)))] kr rfl rfl rfl kr kr kr kr rfl rfl rfl
 refine tA h1 ?_
 refine Tr.at ?_
 refine lA 2 ?_
 obtain ⟨r8,er8,H⟩ := bs H
 refine LAt.callL tOk [.lend,.rd] (f := 51) (av := #[.tmp 10,.tmp 11]) (ats := #[92,38]) (d := (some 12)) (ty := 3) (g := none) kr kr kr [] (zu n r2.2 [0,99,100] r8 er8) kr (.inl rfl) ?_
 refine uA 2 13 13 ?_
 refine gA 2 5 5 ?_
 refine te ?_
 obtain rfl := si H
 exact Fin.ofY _ [(true,[cI r8.1,cS r1.1.Name,cL 8 r1.1.Ps Pt.row,cL 5 r1.1.F zB.row,cL 3 r1.1.V.Rows zC.row,cL 1 r1.1.V.Pv intRow,cI r1.1.Tk,cI r1.1.Pa,cI r1.1.Wo,cI r1.1.Dr,cI r1.1.Ve])] [] _ [] _ [(0,(CV.frzRow (Src.row r8.2)))] kr rfl rfl rfl kr kr kr kr rfl rfl rfl
def QR (n : Nat) (x0 : (List Int)) : Option (zA × Int × Vec) :=
  ((Ya n x0).bind fun r1 => ((Y0 n r1).bind fun r2 => ((ze n r2.2 [0,0,1,2,(-1),6]).bind fun r3 => ((QY n r3.2).bind fun r4 => (some (r2.1,r3.1,r4.1))))))
theorem zEJ (n : Nat) (x0 : (List Int)) (r : zA × Int × Vec) (H : QR n x0 = some r) : zK Try.prog 15 [.val false [.sl false 1 (CV.frzEs (x0.map zF))]] [.val true (zA.row r.1),.val false [.lit (.int .i64 r.2.1)],.val true (Vec.row r.2.2)] [] := by
 refine cW Try.func15 (fun g d => sl [g 0,g 1,g 2] .ret) [.cell 2 42,.tmp 3,.cell 4 46] fun cx => ?_
 unfold QR at H
 refine gA 3 21 20 ?_
 refine rA 1 ?_
 obtain ⟨r1,er1,H⟩ := bs H
 refine vA [.rd] (zE4 n x0 r1 er1) ?_
 refine uA 1 52 148 ?_
 refine rA 1 ?_
 obtain ⟨r2,er2,H⟩ := bs H
 refine LAt.callL tOk [.lend] (f := 50) (av := #[.tmp 8]) (ats := #[92]) (d := (some 9)) (ty := 42) (g := none) kr kr kr [] (zHC n r1 r2 er2) kr (.inl rfl) ?_
 refine lA 2 ?_
 obtain ⟨r3,er3,H⟩ := bs H
 refine LAt.callL tOk [.lend,.rd] (f := 51) (av := #[.tmp 10,.tmp 11]) (ats := #[92,38]) (d := (some 12)) (ty := 3) (g := none) kr kr kr [] (zu n r2.2 [0,0,1,2,(-1),6] r3 er3) kr (.inl rfl) ?_
 refine lA 1 ?_
 obtain ⟨r4,er4,H⟩ := bs H
 refine LAt.callL tOk [.lend] (f := 52) (av := #[.tmp 13]) (ats := #[92]) (d := (some 14)) (ty := 46) (g := none) kr kr kr [] (zE6 n r3.2 r4 er4) kr (.inl rfl) ?_
 refine uA 3 28 20 ?_
 exact te (fJ [(true,(zA.row r2.1)),(false,[cI r3.1]),(true,(Vec.row r4.1))] H)
def Jb (n : Nat) (x0 : (List zB)) : Option ((List zB)) :=
  (bif (decide (([] : List zB).length + x0.length ≤ 268435456)) then (some (([] : List zB) ++ x0)) else none)
theorem zGW (n : Nat) (x0 : (List zB)) (r : (List zB)) (H : Jb n x0 = some r) : zK Try.prog 107 [.val false [.sl false 5 (CV.frzEs (x0.map zB.row))]] [.val false [.sl true 5 (r.map zB.row)]] [] := by
 refine cW Try.func107 (fun g d => sl [g 0,g 1] .ret) [.tmp 2] fun cx => ?_
 unfold Jb at H
 refine gA 1 1 0 ?_
 refine rA 1 ?_
 obtain ⟨hg1,H⟩ := gs H
 refine LAt.appCU tOk (t := 36) (ty := 36) (e := 60) (x := (.const (.slice none 0 0))) (y := (.tmp 3)) (d := 4) (g := none) (tI 60) zB.row ([] : List zB) x0 ⟨(.slot 3),[],0,false,5,(CV.frzEs (x0.map zB.row))⟩ kr kr kr kr kr kr kr kr kr kr kr (.inr rfl) (fun _ => rfl) (fun _ => rfl) hg1 ?_
 refine LAt.moveU (T := lk tab) (ty := 36) (x := (.tmp 4)) (d := 2) (g := none) false [cL 5 (([] : List zB) ++ x0) zB.row] kr kr kr kr kr ?_
 refine dA 4 0 ?_
 exact te (fJ [(false,[cL 5 (([] : List zB) ++ x0) zB.row])] H)
def Y9 (n : Nat) (x0 : (List Int)) : Option ((List Int)) :=
  (bif (decide (([] : List Int).length + x0.length ≤ 268435456)) then (some (([] : List Int) ++ x0)) else none)
theorem zF3 (n : Nat) (x0 : (List Int)) (r : (List Int)) (H : Y9 n x0 = some r) : zK Try.prog 65 [.val false [.sl false 1 (CV.frzEs (x0.map intRow))]] [.val false [.sl true 1 (r.map intRow)]] [] := by
 refine cW Try.func65 (fun g d => sl [g 0,g 1] .ret) [.tmp 2] fun cx => ?_
 unfold Y9 at H
 refine gA 1 1 0 ?_
 refine rA 1 ?_
 obtain ⟨hg1,H⟩ := gs H
 refine LAt.appCU tOk (t := 38) (ty := 38) (e := 3) (x := (.const (.slice none 0 0))) (y := (.tmp 3)) (d := 4) (g := none) (tI 3) intRow ([] : List Int) x0 ⟨(.slot 3),[],0,false,1,(CV.frzEs (x0.map intRow))⟩ kr kr kr kr kr kr kr kr kr kr kr (.inr rfl) (fun _ => rfl) (fun _ => rfl) hg1 ?_
 refine LAt.moveU (T := lk tab) (ty := 38) (x := (.tmp 4)) (d := 2) (g := none) false [cL 1 (([] : List Int) ++ x0) intRow] kr kr kr kr kr ?_
 refine dA 4 0 ?_
 exact te (fJ [(false,[cL 1 (([] : List Int) ++ x0) intRow])] H)
def Q3 (n : Nat) (x0 : zD) : Option (zD) :=
  (bif (decide (([] : List zC).length + x0.Rows.length ≤ 268435456)) then ((Y9 n x0.Pv).bind fun r2 => (some (⟨(([] : List zC) ++ x0.Rows),r2⟩ : zD))) else none)
theorem zF4 (n : Nat) (x0 : zD) (r : zD) (H : Q3 n x0 = some r) : zK Try.prog 108 [.val true (CV.frzRow (zD.row x0))] [.val true (zD.row r)] [] := by
 refine cW Try.func108 (fun g d => sl [g 0,d 1] .ret) [.cell 2 40] fun cx => ?_
 unfold Q3 at H
 refine gA 2 6 6 ?_
 obtain ⟨hg1,H⟩ := gs H
 obtain ⟨r2,er2,H⟩ := bs H
 refine Tr.draws mixed 8 kr ⟨10,0,[sA 2 2 2 0],[(2,[cL 3 (([] : List zC) ++ x0.Rows) zC.row,cL 1 r2 intRow])]⟩ (fun cx => ?_) ?_
 ·refine aA [(0,[]),(1,[2,5,6,7]),(3,[]),(4,[5,6,7])] 4 [⟨[5,6,7],38,6,7⟩,⟨[2,5,6,7],37,3,4⟩] fun cx => ?_
  refine bA 2 ?_
  refine LAt.appCU tOk (t := 37) (ty := 37) (e := 114) (x := (.const (.slice none 0 0))) (y := (.tmp 4)) (d := 5) (g := none) (tI 114) zC.row ([] : List zC) x0.Rows ⟨(.box 1),[(0,0)],0,false,3,(CV.frzEs (x0.Rows.map zC.row))⟩ kr kr kr kr kr kr kr kr kr kr kr (.inr rfl) (fun _ => rfl) (fun _ => rfl) hg1 ?_
  refine fA ?_
  refine bA 5 ?_
  refine vA [.rd] (zF3 n x0.Pv r2 er2) ?_
  refine fA ?_
  refine bA 6 ?_
  refine lA 1 ?_
  refine fA ?_
  refine bA 7 ?_
  refine lA 1 ?_
  refine fA ?_
  exact eE [2] [2]
 exact te (fJ [(true,[cL 3 (([] : List zC) ++ x0.Rows) zC.row,cL 1 r2 intRow])] H)
def ZY (n : Nat) (x0 : zA) : Option (zA) :=
  (bif (decide (([] : List Pt).length + x0.Ps.length ≤ 268435456)) then ((Jb n x0.F).bind fun r2 => ((Q3 n x0.V).bind fun r3 => (some (⟨x0.Id,x0.Name,(([] : List Pt) ++ x0.Ps),r2,r3,x0.Tk,x0.Pa,x0.Wo,x0.Dr,x0.Ve⟩ : zA)))) else none)
theorem J5 (n : Nat) (x0 : zA) (r : zA) (H : ZY n x0 = some r) : zK Try.prog 53 [.val true (CV.frzRow (zA.row x0))] [.val true (zA.row r)] [] := by
 refine cW Try.func53 (fun g d => sl [g 0,g 1,d 2,g 3] .ret) [.cell 2 42] fun cx => ?_
 unfold ZY at H
 refine gA 2 6 6 ?_
 refine rA 2 ?_
 obtain ⟨hg1,H⟩ := gs H
 refine LAt.appCU tOk (t := 35) (ty := 35) (e := 55) (x := (.const (.slice none 0 0))) (y := (.tmp 4)) (d := 5) (g := none) (tI 55) Pt.row ([] : List Pt) x0.Ps ⟨(.slot 4),[],0,false,8,(CV.frzEs (x0.Ps.map Pt.row))⟩ kr kr kr kr kr kr kr kr kr kr kr (.inr rfl) (fun _ => rfl) (fun _ => rfl) hg1 ?_
 refine uA 2 6 6 ?_
 obtain ⟨r2,er2,H⟩ := bs H
 obtain ⟨r3,er3,H⟩ := bs H
 refine Tr.draws mixed 10 kr ⟨16,0,[sA 2 2 11 0,sA 1 1 11 0],[(1,[cI x0.Id,cS x0.Name,cL 8 (([] : List Pt) ++ x0.Ps) Pt.row,cL 5 r2 zB.row,cL 3 r3.Rows zC.row,cL 1 r3.Pv intRow,cI x0.Tk,cI x0.Pa,cI x0.Wo,cI x0.Dr,cI x0.Ve]),(2,[cI 0,cS (⟨#[]⟩ : ByteArray),cL 8 ([] : List Pt) Pt.row,cL 5 ([] : List zB) zB.row,cL 3 ([] : List zC) zC.row,cL 1 ([] : List Int) intRow,cI 0,cI 0,cI 0,cI 0,cI 0])]⟩ (fun cx => ?_) ?_
 ·refine aA [(0,[]),(1,[2,5,7,9]),(3,[]),(4,[5,7,9])] 6 [⟨[5,7,9],40,10,11⟩,⟨[2,5,7,9],36,7,8⟩] fun cx => ?_
  refine bA 2 ?_
  refine vA [.rd] (zGW n x0.F r2 er2) ?_
  refine fA ?_
  refine aA [(6,[])] 4 [⟨[5,7,9],40,10,11⟩,⟨[2,5,7,9],36,7,8⟩] fun cx => ?_
  refine bA 5 ?_
  refine vA [.rd] (zF4 n x0.V r3 er3) ?_
  refine fA ?_
  refine bA 7 ?_
  refine LAt.storeO tOk (t := 36) (ty := 0) (ad := (.tmp 13)) (x := (.tmp 9)) (g := none) (tI 36) false [cL 5 r2 zB.row] 1 3 [cI x0.Id,cS x0.Name,cL 8 (([] : List Pt) ++ x0.Ps) Pt.row,cF 5 x0.F zB.row,cF 3 x0.V.Rows zC.row,cF 1 x0.V.Pv intRow,cI x0.Tk,cI x0.Pa,cI x0.Wo,cI x0.Dr,cI x0.Ve] kr kr kr kr kr kr kr kr ?_
  refine fA ?_
  refine aA [(8,[])] 1 [⟨[5,7,9],40,10,11⟩,⟨[2,5,7,9],36,7,8⟩] fun cx => ?_
  refine bA 9 ?_
  refine lA 1 ?_
  refine fA ?_
  exact eE [2,1] [1,2]
 refine gA 2 4 4 ?_
 exact te (fJ [(true,[cI x0.Id,cS x0.Name,cL 8 (([] : List Pt) ++ x0.Ps) Pt.row,cL 5 r2 zB.row,cL 3 r3.Rows zC.row,cL 1 r3.Pv intRow,cI x0.Tk,cI x0.Pa,cI x0.Wo,cI x0.Dr,cI x0.Ve])] H)
def qN (n : Nat) (x0 : Int) (x1 : Int) (x2 : Int) : Option (Bool) :=
  (bif (decide (x0 ≥ x1)) then (some (decide (x0 ≤ x2))) else (some false))
theorem qU (n : Nat) (x0 : Int) (x1 : Int) (x2 : Int) (r : Bool) (H : qN n x0 x1 x2 = some r) : zK Try.prog 44 [.val false [.lit (.int .i64 x0)],.val false [.lit (.int .i64 x1)],.val false [.lit (.int .i64 x2)]] [.val false [.lit (.bool r)]] [] := by
 refine cW Try.func44 (fun g d => sl [g 0,g 1] .ret) [.tmp 6] fun cx => ?_
 unfold qN at H
 refine gA 1 7 0 ?_
 refine rA 4 ?_
 refine sL 1029 0 ⟨15,0,[sB 10 (decide (x0 ≥ x1)),sI 0 x0,sI 2 x2],[]⟩ ?_
 cases h1 : (decide (x0 ≥ x1))
 ·have H := zL h1 H
  refine uA 5 64 0 ?_
  exact te (fF H)
 have H := zM h1 H
 refine uA 5 64 0 ?_
 exact te (fJ [(false,[cB (decide (x0 ≤ x2))])] H)
def Z6 (n : Nat) (x0 : Vec) : Option (Bool) :=
  ((qN n x0.Root 1 99).bind fun r1 => (bif r1 then ((qN n x0.Co 0 100000).bind fun r2 => (bif r2 then ((qN n x0.Hops 0 10).bind fun r3 => (bif r3 then ((qN n x0.Bridge 1 99).bind fun r4 => (bif r4 then ((qN n x0.Port 0 7).bind fun r5 => (some r5)) else (some false))) else (some false))) else (some false))) else (some false)))
theorem J4 (n : Nat) (x0 : Vec) (r : Bool) (H : Z6 n x0 = some r) : zK Try.prog 20 [.val true (CV.frzRow (Vec.row x0))] [.val false [.lit (.bool r)]] [] := by
 refine cW Try.func20 (fun g d => sl [g 0,g 1] .ret) [.tmp 2] fun cx => ?_
 unfold Z6 at H
 refine gA 2 2 2 ?_
 refine rA 2 ?_
 obtain ⟨r1,er1,H⟩ := bs H
 refine vA [.rd,.rd,.rd] (qU n x0.Root 1 99 r1 er1) ?_
 refine lA 1 ?_
 refine sL 66 2 ⟨26,0,[sB 6 r1,sA 1 1 5 0],[(1,(Vec.row x0))]⟩ ?_
 cases h1 : r1
 ·have H := zL h1 H
  refine uA 20 4 0 ?_
  exact te (fF H)
 have H := zM h1 H
 refine lA 2 ?_
 obtain ⟨r2,er2,H⟩ := bs H
 refine vA [.rd,.rd,.rd] (qU n x0.Co 0 100000 r2 er2) ?_
 refine lA 2 ?_
 refine sL 2050 2 ⟨26,0,[sB 11 r2,sA 1 1 5 0],[(1,(Vec.row x0))]⟩ ?_
 cases h2 : r2
 ·have H := zL h2 H
  refine uA 15 4 0 ?_
  exact te (fF H)
 have H := zM h2 H
 refine lA 2 ?_
 obtain ⟨r3,er3,H⟩ := bs H
 refine vA [.rd,.rd,.rd] (qU n x0.Hops 0 10 r3 er3) ?_
 refine lA 2 ?_
 refine sL 65538 2 ⟨26,0,[sB 16 r3,sA 1 1 5 0],[(1,(Vec.row x0))]⟩ ?_
 cases h3 : r3
 ·have H := zL h3 H
  refine uA 10 4 0 ?_
  exact te (fF H)
 have H := zM h3 H
 refine lA 2 ?_
 obtain ⟨r4,er4,H⟩ := bs H
 refine vA [.rd,.rd,.rd] (qU n x0.Bridge 1 99 r4 er4) ?_
 refine lA 2 ?_
 refine sL 2097154 2 ⟨26,0,[sB 21 r4,sA 1 1 5 0],[(1,(Vec.row x0))]⟩ ?_
 cases h4 : r4
 ·have H := zL h4 H
  refine uA 5 4 0 ?_
  exact te (fF H)
 have H := zM h4 H
 refine lA 2 ?_
 obtain ⟨r5,er5,H⟩ := bs H
 refine vA [.rd,.rd,.rd] (qU n x0.Port 0 7 r5 er5) ?_
 refine uA 2 4 0 ?_
 exact te (fJ [(false,[cB r5])] H)
def J1 (n : Nat) (x0 : Pt) : Option (Bool) :=
  ((qN n x0.Co 1 1000).bind fun r1 => (bif (!r1) then (some false) else (bif x0.Has then (bif (!x0.Up) then (some false) else ((Z6 n x0.Hd).bind fun r2 => (some r2))) else (some ((x0.Hd.Root == 0) && ((x0.Hd.Co == 0) && ((x0.Hd.Hops == 0) && ((x0.Hd.Bridge == 0) && ((x0.Hd.Port == 0) && true)))))))))
theorem zIE (n : Nat) (x0 : Pt) (r : Bool) (H : J1 n x0 = some r) : zK Try.prog 60 [.val true (CV.frzRow (Pt.row x0))] [.val false [.lit (.bool r)]] [] := by
 refine cW Try.func60 (fun g d => sl [g 0,sl [g 1] (cn 15 (sl [g 2] .ret) .skip),sl [g 3] (cn 17 (sl [g 4] .ret) .skip),g 5] .ret) [.tmp 2] fun cx => ?_
 unfold J1 at H
 refine gA 2 2 2 ?_
 refine tS ?_
 refine rA 2 ?_
 obtain ⟨r1,er1,H⟩ := bs H
 refine vA [.rd,.rd,.rd] (qU n x0.Co 1 1000 r1 er1) ?_
 refine lA 2 ?_
 refine sL 130 2 ⟨25,0,[sB 7 (!r1),sA 1 1 8 0],[(1,(Pt.row x0))]⟩ ?_
 cases h1 : (!r1)
 ·have H := zL h1 H
  refine lA 3 ?_
  refine sL 1154 2 ⟨25,0,[sB 10 x0.Has,sB 7 false,sA 1 1 8 0],[(1,(Pt.row x0))]⟩ ?_
  cases h2 : x0.Has
  ·have H := zL h2 H
   refine uA 5 32770 2 ?_
   refine nB_ ?_
   refine tK ?_
   refine tS ?_
   refine gA 2 131074 2 ?_
   refine sT ⟨25,0,[sB 17 x0.Has,sA 1 1 8 0],[(1,(Pt.row x0))]⟩ ?_
   rw [h2]
   refine nB_ ?_
   refine tK ?_
   refine rA 3 ?_
   refine LAt.eqSG false (t := 46) (ty := 46) (ty' := 4) (x := (.tmp 22)) (y := (.tmp 23)) (d := 24) (g := none) ((x0.Hd.Root == 0) && ((x0.Hd.Co == 0) && ((x0.Hd.Hops == 0) && ((x0.Hd.Bridge == 0) && ((x0.Hd.Port == 0) && true))))) _ kr kr kr kr rfl ?_
   refine uA 1 4 0 ?_
   exact te (fJ [(false,[cB ((x0.Hd.Root == 0) && ((x0.Hd.Co == 0) && ((x0.Hd.Hops == 0) && ((x0.Hd.Bridge == 0) && ((x0.Hd.Port == 0) && true)))))])] H)
  have H := zM h2 H
  refine uA 5 32770 2 ?_
  obtain ⟨h3,H⟩ | ⟨h3,H⟩ := bC H
  ·refine nA h3 ?_
   refine tK ?_
   refine tS ?_
   refine gA 2 131074 2 ?_
   refine sT ⟨25,0,[sB 17 x0.Has,sA 1 1 8 0],[(1,(Pt.row x0))]⟩ ?_
   rw [h2]
   refine tB_ ?_
   refine rA 2 ?_
   obtain ⟨r2,er2,H⟩ := bs H
   refine vA [.rd] (J4 n x0.Hd r2 er2) ?_
   refine uA 1 4 0 ?_
   exact te (fJ [(false,[cB r2])] H)
  refine tA h3 ?_
  refine gA 1 4 0 ?_
  exact te (fF H)
 have H := zM h1 H
 refine uA 8 32770 2 ?_
 refine tB_ ?_
 refine gA 1 4 0 ?_
 exact te (fF H)
def J6 (n : Nat) (x0 : zB) : Option (Bool) :=
  ((qN n x0.Tag 1 99).bind fun r1 => (bif r1 then ((qN n x0.Mac 1 9999).bind fun r2 => (bif r2 then ((qN n x0.Port 0 7).bind fun r3 => (bif r3 then ((qN n x0.Age 0 4).bind fun r4 => (bif r4 then (bif (!x0.Sc) then (some true) else (some (x0.Age == 0))) else (some false))) else (some false))) else (some false))) else (some false)))
theorem zBz (n : Nat) (x0 : zB) (r : Bool) (H : J6 n x0 = some r) : zK Try.prog 114 [.val true (CV.frzRow (zB.row x0))] [.val false [.lit (.bool r)]] [] := by
 refine cW Try.func114 (fun g d => sl [g 0,g 1] .ret) [.tmp 2] fun cx => ?_
 unfold J6 at H
 refine gA 2 2 2 ?_
 refine rA 2 ?_
 obtain ⟨r1,er1,H⟩ := bs H
 refine vA [.rd,.rd,.rd] (qU n x0.Tag 1 99 r1 er1) ?_
 refine lA 1 ?_
 refine sL 66 2 ⟨31,0,[sB 6 r1,sA 1 1 5 0],[(1,(zB.row x0))]⟩ ?_
 cases h1 : r1
 ·have H := zL h1 H
  refine uA 25 4 0 ?_
  exact te (fF H)
 have H := zM h1 H
 refine lA 2 ?_
 obtain ⟨r2,er2,H⟩ := bs H
 refine vA [.rd,.rd,.rd] (qU n x0.Mac 1 9999 r2 er2) ?_
 refine lA 2 ?_
 refine sL 2050 2 ⟨31,0,[sB 11 r2,sA 1 1 5 0],[(1,(zB.row x0))]⟩ ?_
 cases h2 : r2
 ·have H := zL h2 H
  refine uA 20 4 0 ?_
  exact te (fF H)
 have H := zM h2 H
 refine lA 2 ?_
 obtain ⟨r3,er3,H⟩ := bs H
 refine vA [.rd,.rd,.rd] (qU n x0.Port 0 7 r3 er3) ?_
 refine lA 2 ?_
 refine sL 65538 2 ⟨31,0,[sB 16 r3,sA 1 1 5 0],[(1,(zB.row x0))]⟩ ?_
 cases h3 : r3
 ·have H := zL h3 H
  refine uA 15 4 0 ?_
  exact te (fF H)
 have H := zM h3 H
 refine lA 2 ?_
 obtain ⟨r4,er4,H⟩ := bs H
 refine vA [.rd,.rd,.rd] (qU n x0.Age 0 4 r4 er4) ?_
 refine lA 2 ?_
 refine sL 2097154 2 ⟨31,0,[sB 21 r4,sA 1 1 5 0],[(1,(zB.row x0))]⟩ ?_
 cases h4 : r4
 ·have H := zL h4 H
  refine uA 10 4 0 ?_
  exact te (fF H)
 have H := zM h4 H
 refine lA 4 ?_
 refine sL 35651586 2 ⟨31,0,[sB 25 (!x0.Sc),sB 21 true,sA 1 1 5 0],[(1,(zB.row x0))]⟩ ?_
 cases h5 : (!x0.Sc)
 ·have H := zL h5 H
  refine uA 6 4 0 ?_
  exact te (fJ [(false,[cB (x0.Age == 0)])] H)
 have H := zM h5 H
 refine uA 6 4 0 ?_
 exact te (fT H)
def Yr (n : Nat) (x0 : zB) (x1 : Int) (x2 : Int) : Option (Bool) :=
  (bif (decide (x0.Tag > x1)) then (some true) else (bif (x0.Tag == x1) then (some (decide (x0.Mac > x2))) else (some false)))
theorem zG0 (n : Nat) (x0 : zB) (x1 : Int) (x2 : Int) (r : Bool) (H : Yr n x0 x1 x2 = some r) : zK Try.prog 115 [.val true (CV.frzRow (zB.row x0)),.val false [.lit (.int .i64 x1)],.val false [.lit (.int .i64 x2)]] [.val false [.lit (.bool r)]] [] := by
 refine cW Try.func115 (fun g d => sl [g 0,g 1] .ret) [.tmp 6] fun cx => ?_
 unfold Yr at H
 refine gA 2 14 8 ?_
 refine rA 5 ?_
 refine sL 2062 8 ⟨23,0,[sB 11 (decide (x0.Tag > x1)),sA 3 3 5 0,sI 1 x1,sI 2 x2],[(3,(zB.row x0))]⟩ ?_
 cases h1 : (decide (x0.Tag > x1))
 ·have H := zL h1 H
  refine lA 5 ?_
  refine sL 67596 8 ⟨23,0,[sB 16 (x0.Tag == x1),sB 11 false,sA 3 3 5 0,sI 2 x2],[(3,(zB.row x0))]⟩ ?_
  cases h2 : (x0.Tag == x1)
  ·have H := zL h2 H
   refine uA 7 64 0 ?_
   exact te (fF H)
  have H := zM h2 H
  refine uA 7 64 0 ?_
  exact te (fJ [(false,[cB (decide (x0.Mac > x2))])] H)
 have H := zM h1 H
 refine uA 12 64 0 ?_
 exact te (fT H)
def JW (n : Nat) (x0 : (List zB)) : Option (Bool) :=
  (some (decide ((x0.length : Int) ≤ 12)))
def ZU (n : Nat) : Nat → (List zB) → Int → Option ((Unit) ⊕ (Bool))
  | 0,_,_ => none
  | mo2 + 1,x0,y1 => (bif (decide (y1 < (x0.length : Int))) then ((idx x0 y1).bind fun v3 => ((J6 n v3).bind fun r4 => (bif (!r4) then (some (Sum.inr false)) else (bif (decide (y1 > 0)) then ((idx x0 (IntKind.wrap .i64 (y1 - 1))).bind fun v5 => ((idx x0 (IntKind.wrap .i64 (y1 - 1))).bind fun v6 => ((Yr n v3 v5.Tag v6.Mac).bind fun r7 => (bif (!r7) then (some (Sum.inr false)) else (ZU n mo2 x0 (IntKind.wrap .i64 (y1 + 1))))))) else (ZU n mo2 x0 (IntKind.wrap .i64 (y1 + 1))))))) else (some (Sum.inl ())))
def JO (n : Nat) (x0 : (List zB)) : Option (Bool) :=
  ((ZU n n x0 0).bind fun o => match o with | .inl _ => (JW n x0) | .inr r => some r)
def zJg : Tab := ⟨24,[0,1,2,6,8,24,40,64,64,64,576,1344,2112,4160,64,64,32832,81984,131136,262208,532672,1048640,2097224,4194312],[0,1,2,4,8,24,40,64,64,64,576,1344,2112,4160,64,64,32832,81984,131136,262208,532672,1048640,2097224,4194312],[0,1,3,7,15,31,63,127,127,127,639,1919,3967,8063,127,127,32895,114815,245887,508031,1048575,2097151,4194303,8388607]⟩
theorem Zh : qF (rg Try.f61 4) zJg = true := kr
theorem zHh (n : Nat) (x0 : (List zB)) (r : Bool) (H : JO n x0 = some r) : zK Try.prog 61 [.val false [.sl false 5 (CV.frzEs (x0.map zB.row))]] [.val false [.lit (.bool r)]] [] := by
 refine cW Try.func61 (fun g d => sl [g 0,sl [g 1] (.block 0 (.loop (sl [g 2,cn 8 .skip (.exit 0),.block 1 (sl [g 3,d 4] (cn 35 (sl [g 5] .ret) .skip))] (g 6)))),g 7] .ret) [.tmp 2] fun cx => ?_
 unfold JO at H
 refine gA 1 1 0 ?_
 refine tS ?_
 refine rA 1 ?_
 refine kF x0 zB.row ?_
 refine uA 1 225 0 ?_
 obtain ⟨o2,eo2,Ho2⟩ := bs H
 clear H
 refine Tr.mid (ι := Unit) (fun v => ⟨40,0,[sC 0 (cF 5 x0 zB.row)],[]⟩) (fun v => JW n x0 = some r) ?_ ?_
 ·refine tB ?_
  refine Tr.loop (ι := Nat × (Int)) (fun v => ⟨40,0,[sI 7 v.2,sI 6 (x0.length : Int),sC 5 (cF 5 x0 zB.row),sC 0 (cF 5 x0 zB.row)],[]⟩) (fun v => ZU n v.1 x0 v.2 = some o2) (fun v => v.1) (n,0) eo2 (St.sub_of [7,6,5,0] [] kr) ?_
  rintro ⟨mo2,y1⟩ H
  have H : ZU n mo2 x0 y1 = some o2 := H
  obtain _ | mo2 := mo2
  ·exact nN H
  rw [ZU] at H
  refine gA 1 481 0 ?_
  refine tS ?_
  obtain ⟨h1,H⟩ | ⟨h1,H⟩ := bC H
  ·refine nA h1 ?_
   refine Tr.exit ?_
   refine aJ ?_
   obtain rfl := si H
   have H := Ho2
   dsimp only at H
   exact jA () H [0] []
  refine tA h1 ?_
  refine tK ?_
  refine tS ?_
  refine tB ?_
  refine rA 1 ?_
  obtain ⟨v3,ev3,H⟩ := bs H
  refine iA zB.row ev3 ?_
  refine uA 4 249 16 ?_
  obtain ⟨r4,er4,H⟩ := bs H
  refine sT ⟨40,0,[sI 3 y1,sA 4 4 5 0,sI 7 y1,sI 6 (x0.length : Int),sC 5 (cF 5 x0 zB.row),sC 0 (cF 5 x0 zB.row)],[(4,(zB.row v3))]⟩ ?_
  cases h2 : (!r4)
  ·have H := zL h2 H
   refine sT ⟨40,0,[sI 3 y1,sA 4 4 5 0,sI 7 y1,sI 6 (x0.length : Int),sC 5 (cF 5 x0 zB.row),sC 0 (cF 5 x0 zB.row)],[(4,(zB.row v3))]⟩ ?_
   cases h3 : (decide (y1 > 0))
   ·have H := zL h3 H
    refine Tr.draws mixed 24 kr ⟨40,0,[sB 35 false,sI 7 y1,sI 6 (x0.length : Int),sC 5 (cF 5 x0 zB.row),sC 0 (cF 5 x0 zB.row)],[]⟩ (fun cx => ?_) ?_
    ·refine mA Zh [(0,[1])] 23 [⟨[1],60,4,12⟩] fun cx => ?_
     refine mC Zh 1 ?_
     refine vA [.rd] (zBz n v3 r4 er4) ?_
     refine fA ?_
     refine mA Zh [(2,[]),(3,[])] 20 [⟨[1],60,4,12⟩] fun cx => ?_
     refine sA_ 37113 16 ⟨40,0,[sB 15 (!r4),sV 12 (zB.row v3),sI 3 y1,sA 4 4 5 0,sI 7 y1,sI 6 (x0.length : Int),sC 5 (cF 5 x0 zB.row),sC 0 (cF 5 x0 zB.row)],[(4,(zB.row v3))]⟩ ?_
     rw [h2]
     refine mA Zh [(4,[]),(5,[]),(6,[])] 17 [⟨[1],60,4,12⟩] fun cx => ?_
     refine sA_ 299257 16 ⟨40,0,[sB 18 (decide (y1 > 0)),sB 15 false,sV 12 (zB.row v3),sI 3 y1,sA 4 4 5 0,sI 7 y1,sI 6 (x0.length : Int),sC 5 (cF 5 x0 zB.row),sC 0 (cF 5 x0 zB.row)],[(4,(zB.row v3))]⟩ ?_
     rw [h3]
     refine mA Zh [(7,[]),(8,[]),(9,[]),(10,[]),(11,[]),(12,[]),(13,[]),(14,[]),(15,[]),(16,[]),(17,[]),(18,[]),(19,[]),(20,[]),(21,[]),(22,[]),(23,[])] 0 [⟨[1],60,4,12⟩] fun cx => ?_
     exact mE Zh [35,7,6,5,0] []
    refine nB_ ?_
    refine tK ?_
    refine eA 2 225 0 ?_
    exact jB mo2 (IntKind.wrap .i64 (y1 + 1)) H [7,6,5,0] []
   have H := zM h3 H
   obtain ⟨v5,ev5,H⟩ := bs H
   obtain ⟨v6,ev6,H⟩ := bs H
   obtain ⟨r7,er7,H⟩ := bs H
   refine Tr.draws mixed 24 kr ⟨40,0,[sB 35 (!r7),sI 7 y1,sI 6 (x0.length : Int),sC 5 (cF 5 x0 zB.row),sC 0 (cF 5 x0 zB.row)],[]⟩ (fun cx => ?_) ?_
   ·refine mA Zh [(0,[1,20])] 23 [⟨[1,20],60,4,12⟩] fun cx => ?_
    refine mC Zh 1 ?_
    refine vA [.rd] (zBz n v3 r4 er4) ?_
    refine fA ?_
    refine mA Zh [(2,[]),(3,[])] 20 [⟨[1,20],60,4,12⟩] fun cx => ?_
    refine sA_ 37113 16 ⟨40,0,[sB 15 (!r4),sV 12 (zB.row v3),sI 3 y1,sA 4 4 5 0,sI 7 y1,sI 6 (x0.length : Int),sC 5 (cF 5 x0 zB.row),sC 0 (cF 5 x0 zB.row)],[(4,(zB.row v3))]⟩ ?_
    rw [h2]
    refine mA Zh [(4,[]),(5,[]),(6,[])] 17 [⟨[1,20],60,4,12⟩] fun cx => ?_
    refine sA_ 299257 16 ⟨40,0,[sB 18 (decide (y1 > 0)),sB 15 false,sV 12 (zB.row v3),sI 3 y1,sA 4 4 5 0,sI 7 y1,sI 6 (x0.length : Int),sC 5 (cF 5 x0 zB.row),sC 0 (cF 5 x0 zB.row)],[(4,(zB.row v3))]⟩ ?_
    rw [h3]
    refine mA Zh [(7,[20]),(8,[]),(9,[]),(10,[])] 13 [⟨[20],60,4,19⟩,⟨[1,20],60,4,12⟩] fun cx => ?_
    refine iN Zh 11 zB.row ev5 fun cx => ?_
    refine mA Zh [(12,[]),(13,[]),(14,[]),(15,[]),(16,[])] 7 [⟨[20],60,4,19⟩,⟨[1,20],60,4,12⟩] fun cx => ?_
    refine iN Zh 17 zB.row ev6 fun cx => ?_
    refine mA Zh [(18,[]),(19,[])] 4 [⟨[20],60,4,19⟩,⟨[1,20],60,4,12⟩] fun cx => ?_
    refine mC Zh 20 ?_
    refine vA [.rd,.rd,.rd] (zG0 n v3 v5.Tag v6.Mac r7 er7) ?_
    refine fA ?_
    refine mA Zh [(21,[]),(22,[]),(23,[])] 0 [⟨[20],60,4,19⟩,⟨[1,20],60,4,12⟩] fun cx => ?_
    exact mE Zh [35,7,6,5,0] []
   refine sT ⟨40,0,[sB 35 (!r7),sI 7 y1,sI 6 (x0.length : Int),sC 5 (cF 5 x0 zB.row),sC 0 (cF 5 x0 zB.row)],[]⟩ ?_
   cases h4 : (!r7)
   ·have H := zL h4 H
    refine nB_ ?_
    refine tK ?_
    refine eA 2 225 0 ?_
    exact jB mo2 (IntKind.wrap .i64 (y1 + 1)) H [7,6,5,0] []
   have H := zM h4 H
   refine tB_ ?_
   refine gA 1 4 0 ?_
   refine te ?_
   obtain rfl := si H
   have H := Ho2
   dsimp only at H
   exact fF H
  have H := zM h2 H
  refine Tr.draws mixed 24 kr ⟨40,0,[sB 35 true,sI 7 y1,sI 6 (x0.length : Int),sC 5 (cF 5 x0 zB.row),sC 0 (cF 5 x0 zB.row)],[]⟩ (fun cx => ?_) ?_
  ·refine mA Zh [(0,[1])] 23 [⟨[1],60,4,12⟩] fun cx => ?_
   refine mC Zh 1 ?_
   refine vA [.rd] (zBz n v3 r4 er4) ?_
   refine fA ?_
   refine mA Zh [(2,[]),(3,[])] 20 [⟨[1],60,4,12⟩] fun cx => ?_
   refine sA_ 37113 16 ⟨40,0,[sB 15 (!r4),sV 12 (zB.row v3),sI 3 y1,sA 4 4 5 0,sI 7 y1,sI 6 (x0.length : Int),sC 5 (cF 5 x0 zB.row),sC 0 (cF 5 x0 zB.row)],[(4,(zB.row v3))]⟩ ?_
   rw [h2]
   refine mA Zh [(4,[]),(5,[]),(6,[]),(7,[]),(8,[]),(9,[]),(10,[]),(11,[]),(12,[]),(13,[]),(14,[]),(15,[]),(16,[]),(17,[]),(18,[]),(19,[]),(20,[]),(21,[]),(22,[]),(23,[])] 0 [⟨[1],60,4,12⟩] fun cx => ?_
   exact mE Zh [35,7,6,5,0] []
  refine tB_ ?_
  refine gA 1 4 0 ?_
  refine te ?_
  obtain rfl := si H
  have H := Ho2
  dsimp only at H
  exact fF H
 rintro _ H
 have H : (JW n x0) = some r := H
 unfold JW at H
 refine rA 1 ?_
 refine kF x0 zB.row ?_
 refine uA 2 4 0 ?_
 exact te (fJ [(false,[cB (decide ((x0.length : Int) ≤ 12))])] H)
def Zd (n : Nat) (x0 : Int) : Option (Int) :=
  (bif (decide ((0 : Int) ≤ x0)) then (some (IntKind.wrap .i64 ((IntKind.wrap .i64 (1 * 2 ^ min ((x0 : Int)).toNat (IntKind.bits .i64))) - 1))) else none)
theorem Ja (n : Nat) (x0 : Int) (r : Int) (H : Zd n x0 = some r) : zK Try.prog 116 [.val false [.lit (.int .i64 x0)]] [.val false [.lit (.int .i64 r)]] [] := by
 refine cW Try.func116 (fun g d => sl [g 0,g 1] .ret) [.tmp 2] fun cx => ?_
 unfold Zd at H
 refine gA 1 1 0 ?_
 refine rA 1 ?_
 obtain ⟨hg1,H⟩ := gs H
 refine LAt.binC tOk (op := .shl) (t := 3) (ty := 3) (ty' := 3) (x := (.const (.int .i64 1))) (y := (.tmp 3)) (d := 4) (g := none) (.int .i64 1) (.int .i64 x0) (.int .i64 (IntKind.wrap .i64 (1 * 2 ^ min ((x0 : Int)).toNat (IntKind.bits .i64)))) _ kr kr kr kr kr (φ := (0 : Int) ≤ x0) kr (of_decide_eq_true hg1) rfl ?_
 refine uA 2 4 0 ?_
 exact te (fJ [(false,[cI (IntKind.wrap .i64 ((IntKind.wrap .i64 (1 * 2 ^ min ((x0 : Int)).toNat (IntKind.bits .i64))) - 1))])] H)
def JX (n : Nat) : Option (Int) :=
  (some (-1))
def QK (n : Nat) : Nat → zD → Int → Int → Option ((Unit) ⊕ (Int))
  | 0,_,_,_ => none
  | mo2 + 1,x0,x1,y1 => (bif (decide (y1 < (x0.Rows.length : Int))) then ((idx x0.Rows y1).bind fun v3 => (bif (v3.Id == x1) then (some (Sum.inr y1)) else (QK n mo2 x0 x1 (IntKind.wrap .i64 (y1 + 1))))) else (some (Sum.inl ())))
def JP (n : Nat) (x0 : zD) (x1 : Int) : Option (Int) :=
  ((QK n n x0 x1 0).bind fun o => match o with | .inl _ => (JX n) | .inr r => some r)
theorem zHi (n : Nat) (x0 : zD) (x1 : Int) (r : Int) (H : JP n x0 x1 = some r) : zK Try.prog 117 [.val true (CV.frzRow (zD.row x0)),.val false [.lit (.int .i64 x1)]] [.val false [.lit (.int .i64 r)]] [] := by
 refine cW Try.func117 (fun g d => sl [g 0,sl [g 1] (.block 0 (.loop (sl [g 2,cn 11 .skip (.exit 0),.block 1 (sl [g 3,g 4] (cn 18 (sl [g 5] .ret) .skip))] (g 6)))),g 7] .ret) [.tmp 4] fun cx => ?_
 unfold JP at H
 refine gA 2 6 4 ?_
 refine tS ?_
 refine rA 2 ?_
 refine kF x0.Rows zC.row ?_
 refine uA 1 1794 0 ?_
 obtain ⟨o2,eo2,Ho2⟩ := bs H
 clear H
 refine Tr.mid (ι := Unit) (fun v => ⟨21,0,[],[]⟩) (fun v => JX n = some r) ?_ ?_
 ·refine tB ?_
  refine Tr.loop (ι := Nat × (Int)) (fun v => ⟨21,0,[sI 10 v.2,sI 9 (x0.Rows.length : Int),sC 8 (cF 3 x0.Rows zC.row),sI 1 x1],[]⟩) (fun v => QK n v.1 x0 x1 v.2 = some o2) (fun v => v.1) (n,0) eo2 (St.sub_of [10,9,8,1] [] kr) ?_
  rintro ⟨mo2,y1⟩ H
  have H : QK n mo2 x0 x1 y1 = some o2 := H
  obtain _ | mo2 := mo2
  ·exact nN H
  rw [QK] at H
  refine gA 1 3842 0 ?_
  refine tS ?_
  obtain ⟨h1,H⟩ | ⟨h1,H⟩ := bC H
  ·refine nA h1 ?_
   refine Tr.exit ?_
   refine aJ ?_
   obtain rfl := si H
   have H := Ho2
   dsimp only at H
   exact jA () H [] []
  refine tA h1 ?_
  refine tK ?_
  refine tS ?_
  refine tB ?_
  refine rA 1 ?_
  obtain ⟨v3,ev3,H⟩ := bs H
  refine iA zC.row ev3 ?_
  refine uA 4 1890 64 ?_
  refine gA 4 263970 0 ?_
  obtain ⟨h2,H⟩ | ⟨h2,H⟩ := bC H
  ·refine nA h2 ?_
   refine tK ?_
   refine eA 2 1794 0 ?_
   exact jB mo2 (IntKind.wrap .i64 (y1 + 1)) H [10,9,8,1] []
  refine tA h2 ?_
  refine gA 2 16 0 ?_
  refine te ?_
  obtain rfl := si H
  have H := Ho2
  dsimp only at H
  exact fJ [(false,[cI y1])] H
 rintro _ H
 have H : (JX n) = some r := H
 unfold JX at H
 refine gA 1 16 0 ?_
 exact te (fJ [(false,[cI (-1)])] H)
def Y8 (n : Nat) : Option (Bool) :=
  (some true)
def Zb (n : Nat) : Nat → zD → Int → Option ((Unit) ⊕ (Bool))
  | 0,_,_ => none
  | mo4 + 1,x0,y3 => (bif (decide (y3 < (x0.Pv.length : Int))) then ((idx x0.Pv y3).bind fun v5 => ((JP n x0 v5).bind fun r6 => (bif (decide (r6 < 0)) then (some (Sum.inr false)) else (Zb n mo4 x0 (IntKind.wrap .i64 (y3 + 1)))))) else (some (Sum.inl ())))
def Q1 (n : Nat) (x0 : zD) : Option (Bool) :=
  ((Zb n n x0 0).bind fun o => match o with | .inl _ => (Y8 n) | .inr r => some r)
def ZJ (n : Nat) : Nat → zD → Int → Int → Option ((Unit) ⊕ (Bool))
  | 0,_,_,_ => none
  | mo7 + 1,x0,x1,y2 => (bif (decide (y2 < (x0.Rows.length : Int))) then ((idx x0.Rows y2).bind fun v8 => ((qN n v8.Id 1 99).bind fun r9 => (bif (!r9) then (some (Sum.inr false)) else (bif (decide (y2 > 0)) then ((idx x0.Rows (IntKind.wrap .i64 (y2 - 1))).bind fun v12 => (bif (decide (v12.Id ≥ v8.Id)) then (some (Sum.inr false)) else ((Zd n x1).bind fun r13 => ((qN n v8.Members 0 r13).bind fun r14 => (bif (!r14) then (some (Sum.inr false)) else (bif ((IntKind.wrap .i64 (BitVec.ofInt (IntKind.bits .i64) v8.Bare &&& ~~~BitVec.ofInt (IntKind.bits .i64) v8.Members).toNat) != 0) then (some (Sum.inr false)) else (ZJ n mo7 x0 x1 (IntKind.wrap .i64 (y2 + 1))))))))) else ((Zd n x1).bind fun r10 => ((qN n v8.Members 0 r10).bind fun r11 => (bif (!r11) then (some (Sum.inr false)) else (bif ((IntKind.wrap .i64 (BitVec.ofInt (IntKind.bits .i64) v8.Bare &&& ~~~BitVec.ofInt (IntKind.bits .i64) v8.Members).toNat) != 0) then (some (Sum.inr false)) else (ZJ n mo7 x0 x1 (IntKind.wrap .i64 (y2 + 1))))))))))) else (some (Sum.inl ())))
def Yq (n : Nat) (x0 : zD) (x1 : Int) : Option (Bool) :=
  ((qN n x1 1 6).bind fun r1 => (bif (!r1) then (some false) else (bif ((x0.Pv.length : Int) != x1) then (some false) else (bif (decide ((x0.Rows.length : Int) > 6)) then (some false) else ((ZJ n n x0 x1 0).bind fun o => match o with | .inl _ => (Q1 n x0) | .inr r => some r)))))
def zJh : Tab := ⟨36,[0,1,2,4,12,16,48,80,128,384,128,1152,2688,4224,8320,128,32896,82048,131216,262160,524416,1048576,3145728,1048576,9437184,22020096,34603008,68157440,167772160,268435456,805306368,268435456,2415919104,5637144576,8858370048,17448304640],[0,1,2,4,8,16,48,80,128,384,128,1152,2688,4224,8320,128,32896,82048,131216,262160,524288,1048576,3145728,1048576,9437184,22020096,34603008,68157440,134217728,268435456,805306368,268435456,2415919104,5637144576,8858370048,17448304640],[0,1,3,7,15,31,63,127,255,511,255,1279,4095,8191,16383,255,33023,131071,262143,524287,1048575,2097151,4194303,2097151,10485759,33554431,67108863,134217727,268435455,536870911,1073741823,536870911,2684354559,8589934591,17179869183,34359738367]⟩
theorem zi : qF (rg Try.f62 6) zJh = true := kr
theorem zFL (n : Nat) (x1 : Int) (r13 : Int) (v8 : zC) (r14 : Bool) (y2 : Int) (x0 : zD) (er13 : (Zd n x1) = some r13) (er14 : (qN n v8.Members 0 r13) = some r14) (h12 : (!r14) = false) (cx : Cx) : AT Try.prog cx (rg Try.f62 6) [⟨[24,25],3,48,49⟩,⟨[24,25],37,41,42⟩,⟨[2,24,25],3,33,34⟩] 15 [20,19,18,17,16,15,14,13,12,11,10,9,8,7,6,5,4,3,2,1,0] ⟨82,0,[sB 53 false,sI 49 v8.Id,sA 48 6 3 0,sR 42 2 2 0 1 false,sA 41 2 2 0,sI 34 v8.Id,sA 33 6 3 0,sA 6 6 3 0,sI 28 y2,sI 27 (x0.Rows.length : Int),sC 26 (cF 3 x0.Rows zC.row),sA 2 2 2 0,sI 1 x1],[(6,(zC.row v8)),(2,(CV.frzRow (zD.row x0)))]⟩ (fun s => s = ⟨82,0,[sB 68 ((IntKind.wrap .i64 (BitVec.ofInt (IntKind.bits .i64) v8.Bare &&& ~~~BitVec.ofInt (IntKind.bits .i64) v8.Members).toNat) != 0),sI 28 y2,sI 27 (x0.Rows.length : Int),sC 26 (cF 3 x0.Rows zC.row),sA 2 2 2 0,sI 1 x1],[(2,(CV.frzRow (zD.row x0)))]⟩) := by
 refine mA zi [(21,[]),(22,[25]),(23,[])] 12 [⟨[25],3,54,55⟩,⟨[24,25],3,48,49⟩,⟨[24,25],37,41,42⟩,⟨[2,24,25],3,33,34⟩] fun cx => ?_
 refine mC zi 24 ?_
 refine vA [.rd] (Ja n x1 r13 er13) ?_
 refine fA ?_
 refine mC zi 25 ?_
 refine vA [.rd,.rd,.rd] (qU n v8.Members 0 r13 r14 er14) ?_
 refine fA ?_
 refine mA zi [(26,[]),(27,[]),(28,[])] 7 [⟨[25],3,54,55⟩,⟨[24,25],3,48,49⟩,⟨[24,25],37,41,42⟩,⟨[2,24,25],3,33,34⟩] fun cx => ?_
 refine sA_ 0x20c306061c000046 68 ⟨82,0,[sB 61 (!r14),sI 55 v8.Members,sA 54 6 3 1,sI 49 v8.Id,sA 48 6 3 0,sR 42 2 2 0 1 false,sA 41 2 2 0,sI 34 v8.Id,sA 33 6 3 0,sA 6 6 3 0,sI 28 y2,sI 27 (x0.Rows.length : Int),sC 26 (cF 3 x0.Rows zC.row),sA 2 2 2 0,sI 1 x1],[(6,(zC.row v8)),(2,(CV.frzRow (zD.row x0)))]⟩ ?_
 rw [h12]
 refine mA zi [(29,[]),(30,[]),(31,[]),(32,[]),(33,[]),(34,[]),(35,[])] 0 [⟨[],3,64,65⟩,⟨[],3,62,63⟩,⟨[25],3,54,55⟩,⟨[24,25],3,48,49⟩,⟨[24,25],37,41,42⟩,⟨[2,24,25],3,33,34⟩] fun cx => ?_
 exact mE zi [68,28,27,26,2,1] [2]
theorem zFM (n : Nat) (x1 : Int) (r13 : Int) (v8 : zC) (r14 : Bool) (y2 : Int) (x0 : zD) (er13 : (Zd n x1) = some r13) (er14 : (qN n v8.Members 0 r13) = some r14) (h12 : (!r14) = true) (cx : Cx) : AT Try.prog cx (rg Try.f62 6) [⟨[24,25],3,48,49⟩,⟨[24,25],37,41,42⟩,⟨[2,24,25],3,33,34⟩] 15 [20,19,18,17,16,15,14,13,12,11,10,9,8,7,6,5,4,3,2,1,0] ⟨82,0,[sB 53 false,sI 49 v8.Id,sA 48 6 3 0,sR 42 2 2 0 1 false,sA 41 2 2 0,sI 34 v8.Id,sA 33 6 3 0,sA 6 6 3 0,sI 28 y2,sI 27 (x0.Rows.length : Int),sC 26 (cF 3 x0.Rows zC.row),sA 2 2 2 0,sI 1 x1],[(6,(zC.row v8)),(2,(CV.frzRow (zD.row x0)))]⟩ (fun s => s = ⟨82,0,[sB 68 true,sI 28 y2,sI 27 (x0.Rows.length : Int),sC 26 (cF 3 x0.Rows zC.row),sA 2 2 2 0,sI 1 x1],[(2,(CV.frzRow (zD.row x0)))]⟩) := by
 refine mA zi [(21,[]),(22,[25]),(23,[])] 12 [⟨[25],3,54,55⟩,⟨[24,25],3,48,49⟩,⟨[24,25],37,41,42⟩,⟨[2,24,25],3,33,34⟩] fun cx => ?_
 refine mC zi 24 ?_
 refine vA [.rd] (Ja n x1 r13 er13) ?_
 refine fA ?_
 refine mC zi 25 ?_
 refine vA [.rd,.rd,.rd] (qU n v8.Members 0 r13 r14 er14) ?_
 refine fA ?_
 refine mA zi [(26,[]),(27,[]),(28,[])] 7 [⟨[25],3,54,55⟩,⟨[24,25],3,48,49⟩,⟨[24,25],37,41,42⟩,⟨[2,24,25],3,33,34⟩] fun cx => ?_
 refine sA_ 0x20c306061c000046 68 ⟨82,0,[sB 61 (!r14),sI 55 v8.Members,sA 54 6 3 1,sI 49 v8.Id,sA 48 6 3 0,sR 42 2 2 0 1 false,sA 41 2 2 0,sI 34 v8.Id,sA 33 6 3 0,sA 6 6 3 0,sI 28 y2,sI 27 (x0.Rows.length : Int),sC 26 (cF 3 x0.Rows zC.row),sA 2 2 2 0,sI 1 x1],[(6,(zC.row v8)),(2,(CV.frzRow (zD.row x0)))]⟩ ?_
 rw [h12]
 refine mA zi [(29,[]),(30,[]),(31,[]),(32,[]),(33,[]),(34,[]),(35,[])] 0 [⟨[25],3,54,55⟩,⟨[24,25],3,48,49⟩,⟨[24,25],37,41,42⟩,⟨[2,24,25],3,33,34⟩] fun cx => ?_
 exact mE zi [68,28,27,26,2,1] [2]
theorem zFN (n : Nat) (v8 : zC) (y2 : Int) (x0 : zD) (x1 : Int) (cx : Cx) : AT Try.prog cx (rg Try.f62 6) [⟨[],3,48,49⟩,⟨[],37,41,42⟩,⟨[2],3,33,34⟩] 15 [20,19,18,17,16,15,14,13,12,11,10,9,8,7,6,5,4,3,2,1,0] ⟨82,0,[sB 53 true,sI 49 v8.Id,sA 48 6 3 0,sR 42 2 2 0 1 false,sA 41 2 2 0,sI 34 v8.Id,sA 33 6 3 0,sA 6 6 3 0,sI 28 y2,sI 27 (x0.Rows.length : Int),sC 26 (cF 3 x0.Rows zC.row),sA 2 2 2 0,sI 1 x1],[(6,(zC.row v8)),(2,(CV.frzRow (zD.row x0)))]⟩ (fun s => s = ⟨82,0,[sB 68 true,sI 28 y2,sI 27 (x0.Rows.length : Int),sC 26 (cF 3 x0.Rows zC.row),sA 2 2 2 0,sI 1 x1],[(2,(CV.frzRow (zD.row x0)))]⟩) := by
 refine mA zi [(21,[]),(22,[]),(23,[]),(24,[]),(25,[]),(26,[]),(27,[]),(28,[]),(29,[]),(30,[]),(31,[]),(32,[]),(33,[]),(34,[]),(35,[])] 0 [⟨[],3,48,49⟩,⟨[],37,41,42⟩,⟨[2],3,33,34⟩] fun cx => ?_
 exact mE zi [68,28,27,26,2,1] [2]
theorem zGz (n : Nat) (x0 : zD) (x1 : Int) (r : Bool) (H : Yq n x0 x1 = some r) : zK Try.prog 62 [.val true (CV.frzRow (zD.row x0)),.val false [.lit (.int .i64 x1)]] [.val false [.lit (.bool r)]] [] := by
 refine cW Try.func62 (fun g d => sl [g 0,sl [g 1] (cn 24 (sl [g 2] .ret) .skip),sl [g 3] (.block 0 (.loop (sl [g 4,cn 29 .skip (.exit 0),.block 1 (sl [g 5,d 6] (cn 68 (sl [g 7] .ret) .skip))] (g 8)))),sl [g 9] (.block 2 (.loop (sl [g 10,cn 74 .skip (.exit 2),.block 3 (sl [g 11,g 12] (cn 80 (sl [g 13] .ret) .skip))] (g 14)))),g 15] .ret) [.tmp 4] fun cx => ?_
 unfold Yq at H
 refine gA 2 6 4 ?_
 refine tS ?_
 refine rA 1 ?_
 obtain ⟨r1,er1,H⟩ := bs H
 refine vA [.rd,.rd,.rd] (qU n x1 1 6 r1 er1) ?_
 refine lA 2 ?_
 refine sL 4102 4 ⟨82,0,[sB 12 (!r1),sA 2 2 2 0,sI 1 x1],[(2,(CV.frzRow (zD.row x0)))]⟩ ?_
 cases h1 : (!r1)
 ·have H := zL h1 H
  refine lA 2 ?_
  refine kF x0.Pv intRow ?_
  refine lA 4 ?_
  refine sL 524294 4 ⟨82,0,[sB 19 ((x0.Pv.length : Int) != x1),sA 2 2 2 0,sI 1 x1],[(2,(CV.frzRow (zD.row x0)))]⟩ ?_
  cases h2 : ((x0.Pv.length : Int) != x1)
  ·have H := zL h2 H
   refine lA 2 ?_
   refine kF x0.Rows zC.row ?_
   refine uA 2 16777222 4 ?_
   obtain ⟨h3,H⟩ | ⟨h3,H⟩ := bC H
   ·refine nA h3 ?_
    refine tK ?_
    refine tS ?_
    refine rA 2 ?_
    refine kF x0.Rows zC.row ?_
    refine uA 1 469762054 4 ?_
    obtain ⟨o7,eo7,Ho7⟩ := bs H
    clear H
    refine Tr.mid (ι := Unit) (fun v => ⟨82,0,[sA 2 2 2 0],[(2,(CV.frzRow (zD.row x0)))]⟩) (fun v => Q1 n x0 = some r) ?_ ?_
    ·refine tB ?_
     refine Tr.loop (ι := Nat × (Int)) (fun v => ⟨82,0,[sI 28 v.2,sI 27 (x0.Rows.length : Int),sC 26 (cF 3 x0.Rows zC.row),sA 2 2 2 0,sI 1 x1],[(2,(CV.frzRow (zD.row x0)))]⟩) (fun v => ZJ n v.1 x0 x1 v.2 = some o7) (fun v => v.1) (n,0) eo7 (St.sub_of [28,27,26,2,1] [2] kr) ?_
     rintro ⟨mo7,y2⟩ H
     have H : ZJ n mo7 x0 x1 y2 = some o7 := H
     obtain _ | mo7 := mo7
     ·exact nN H
     rw [ZJ] at H
     refine gA 1 1006632966 4 ?_
     refine tS ?_
     obtain ⟨h6,H⟩ | ⟨h6,H⟩ := bC H
     ·refine nA h6 ?_
      refine Tr.exit ?_
      refine aJ ?_
      obtain rfl := si H
      have H := Ho7
      dsimp only at H
      exact jA () H [2] [2]
     refine tA h6 ?_
     refine tK ?_
     refine tS ?_
     refine tB ?_
     refine rA 1 ?_
     obtain ⟨v8,ev8,H⟩ := bs H
     refine iA zC.row ev8 ?_
     refine uA 4 469762150 68 ?_
     obtain ⟨r9,er9,H⟩ := bs H
     refine sT ⟨82,0,[sI 5 y2,sA 6 6 3 0,sI 28 y2,sI 27 (x0.Rows.length : Int),sC 26 (cF 3 x0.Rows zC.row),sA 2 2 2 0,sI 1 x1],[(6,(zC.row v8)),(2,(CV.frzRow (zD.row x0)))]⟩ ?_
     cases h7 : (!r9)
     ·have H := zL h7 H
      refine sT ⟨82,0,[sI 5 y2,sA 6 6 3 0,sI 28 y2,sI 27 (x0.Rows.length : Int),sC 26 (cF 3 x0.Rows zC.row),sA 2 2 2 0,sI 1 x1],[(6,(zC.row v8)),(2,(CV.frzRow (zD.row x0)))]⟩ ?_
      cases h8 : (decide (y2 > 0))
      ·have H := zL h8 H
       obtain ⟨r10,er10,H⟩ := bs H
       obtain ⟨r11,er11,H⟩ := bs H
       refine sT ⟨82,0,[sI 5 y2,sA 6 6 3 0,sI 28 y2,sI 27 (x0.Rows.length : Int),sC 26 (cF 3 x0.Rows zC.row),sA 2 2 2 0,sI 1 x1],[(6,(zC.row v8)),(2,(CV.frzRow (zD.row x0)))]⟩ ?_
       cases h9 : (!r11)
       ·have H := zL h9 H
        refine Tr.draws mixed 36 kr ⟨82,0,[sB 68 ((IntKind.wrap .i64 (BitVec.ofInt (IntKind.bits .i64) v8.Bare &&& ~~~BitVec.ofInt (IntKind.bits .i64) v8.Members).toNat) != 0),sI 28 y2,sI 27 (x0.Rows.length : Int),sC 26 (cF 3 x0.Rows zC.row),sA 2 2 2 0,sI 1 x1],[(2,(CV.frzRow (zD.row x0)))]⟩ (fun cx => ?_) ?_
        ·refine mA zi [(0,[]),(1,[2,24,25])] 34 [⟨[2,24,25],3,33,34⟩] fun cx => ?_
         refine mC zi 2 ?_
         refine vA [.rd,.rd,.rd] (qU n v8.Id 1 99 r9 er9) ?_
         refine fA ?_
         refine mA zi [(3,[]),(4,[])] 31 [⟨[2,24,25],3,33,34⟩] fun cx => ?_
         refine sA_ 163678519398 68 ⟨82,0,[sB 37 (!r9),sI 34 v8.Id,sA 33 6 3 0,sI 5 y2,sA 6 6 3 0,sI 28 y2,sI 27 (x0.Rows.length : Int),sC 26 (cF 3 x0.Rows zC.row),sA 2 2 2 0,sI 1 x1],[(6,(zC.row v8)),(2,(CV.frzRow (zD.row x0)))]⟩ ?_
         rw [h7]
         refine mA zi [(5,[]),(6,[]),(7,[])] 28 [⟨[2,24,25],3,33,34⟩] fun cx => ?_
         refine sA_ 1263190147174 68 ⟨82,0,[sB 40 (decide (y2 > 0)),sB 37 false,sI 34 v8.Id,sA 33 6 3 0,sI 5 y2,sA 6 6 3 0,sI 28 y2,sI 27 (x0.Rows.length : Int),sC 26 (cF 3 x0.Rows zC.row),sA 2 2 2 0,sI 1 x1],[(6,(zC.row v8)),(2,(CV.frzRow (zD.row x0)))]⟩ ?_
         rw [h8]
         refine mA zi [(8,[]),(9,[]),(10,[]),(11,[]),(12,[]),(13,[]),(14,[]),(15,[]),(16,[]),(17,[]),(18,[]),(19,[]),(20,[]),(21,[]),(22,[25]),(23,[])] 12 [⟨[25],3,54,55⟩,⟨[2,24,25],3,33,34⟩] fun cx => ?_
         refine mC zi 24 ?_
         refine vA [.rd] (Ja n x1 r10 er10) ?_
         refine fA ?_
         refine mC zi 25 ?_
         refine vA [.rd,.rd,.rd] (qU n v8.Members 0 r10 r11 er11) ?_
         refine fA ?_
         refine mA zi [(26,[]),(27,[]),(28,[])] 7 [⟨[25],3,54,55⟩,⟨[2,24,25],3,33,34⟩] fun cx => ?_
         refine sA_ 0x20c000061c000046 68 ⟨82,0,[sB 61 (!r11),sI 55 v8.Members,sA 54 6 3 1,sI 34 v8.Id,sA 33 6 3 0,sA 6 6 3 0,sI 28 y2,sI 27 (x0.Rows.length : Int),sC 26 (cF 3 x0.Rows zC.row),sA 2 2 2 0,sI 1 x1],[(6,(zC.row v8)),(2,(CV.frzRow (zD.row x0)))]⟩ ?_
         rw [h9]
         refine mA zi [(29,[]),(30,[]),(31,[]),(32,[]),(33,[]),(34,[]),(35,[])] 0 [⟨[],3,64,65⟩,⟨[],3,62,63⟩,⟨[25],3,54,55⟩,⟨[2,24,25],3,33,34⟩] fun cx => ?_
         exact mE zi [68,28,27,26,2,1] [2]
        refine sT ⟨82,0,[sB 68 ((IntKind.wrap .i64 (BitVec.ofInt (IntKind.bits .i64) v8.Bare &&& ~~~BitVec.ofInt (IntKind.bits .i64) v8.Members).toNat) != 0),sI 28 y2,sI 27 (x0.Rows.length : Int),sC 26 (cF 3 x0.Rows zC.row),sA 2 2 2 0,sI 1 x1],[(2,(CV.frzRow (zD.row x0)))]⟩ ?_
        cases h10 : ((IntKind.wrap .i64 (BitVec.ofInt (IntKind.bits .i64) v8.Bare &&& ~~~BitVec.ofInt (IntKind.bits .i64) v8.Members).toNat) != 0)
        ·have H := zL h10 H
         refine nB_ ?_
         refine tK ?_
         refine eA 2 469762054 4 ?_
         exact jB mo7 (IntKind.wrap .i64 (y2 + 1)) H [28,27,26,2,1] [2]
        have H := zM h10 H
        refine tB_ ?_
        refine gA 1 16 0 ?_
        refine te ?_
        obtain rfl := si H
        have H := Ho7
        dsimp only at H
        exact fF H
       have H := zM h9 H
       refine Tr.draws mixed 36 kr ⟨82,0,[sB 68 true,sI 28 y2,sI 27 (x0.Rows.length : Int),sC 26 (cF 3 x0.Rows zC.row),sA 2 2 2 0,sI 1 x1],[(2,(CV.frzRow (zD.row x0)))]⟩ (fun cx => ?_) ?_
       ·refine mA zi [(0,[]),(1,[2,24,25])] 34 [⟨[2,24,25],3,33,34⟩] fun cx => ?_
        refine mC zi 2 ?_
        refine vA [.rd,.rd,.rd] (qU n v8.Id 1 99 r9 er9) ?_
        refine fA ?_
        refine mA zi [(3,[]),(4,[])] 31 [⟨[2,24,25],3,33,34⟩] fun cx => ?_
        refine sA_ 163678519398 68 ⟨82,0,[sB 37 (!r9),sI 34 v8.Id,sA 33 6 3 0,sI 5 y2,sA 6 6 3 0,sI 28 y2,sI 27 (x0.Rows.length : Int),sC 26 (cF 3 x0.Rows zC.row),sA 2 2 2 0,sI 1 x1],[(6,(zC.row v8)),(2,(CV.frzRow (zD.row x0)))]⟩ ?_
        rw [h7]
        refine mA zi [(5,[]),(6,[]),(7,[])] 28 [⟨[2,24,25],3,33,34⟩] fun cx => ?_
        refine sA_ 1263190147174 68 ⟨82,0,[sB 40 (decide (y2 > 0)),sB 37 false,sI 34 v8.Id,sA 33 6 3 0,sI 5 y2,sA 6 6 3 0,sI 28 y2,sI 27 (x0.Rows.length : Int),sC 26 (cF 3 x0.Rows zC.row),sA 2 2 2 0,sI 1 x1],[(6,(zC.row v8)),(2,(CV.frzRow (zD.row x0)))]⟩ ?_
        rw [h8]
        refine mA zi [(8,[]),(9,[]),(10,[]),(11,[]),(12,[]),(13,[]),(14,[]),(15,[]),(16,[]),(17,[]),(18,[]),(19,[]),(20,[]),(21,[]),(22,[25]),(23,[])] 12 [⟨[25],3,54,55⟩,⟨[2,24,25],3,33,34⟩] fun cx => ?_
        refine mC zi 24 ?_
        refine vA [.rd] (Ja n x1 r10 er10) ?_
        refine fA ?_
        refine mC zi 25 ?_
        refine vA [.rd,.rd,.rd] (qU n v8.Members 0 r10 r11 er11) ?_
        refine fA ?_
        refine mA zi [(26,[]),(27,[]),(28,[])] 7 [⟨[25],3,54,55⟩,⟨[2,24,25],3,33,34⟩] fun cx => ?_
        refine sA_ 0x20c000061c000046 68 ⟨82,0,[sB 61 (!r11),sI 55 v8.Members,sA 54 6 3 1,sI 34 v8.Id,sA 33 6 3 0,sA 6 6 3 0,sI 28 y2,sI 27 (x0.Rows.length : Int),sC 26 (cF 3 x0.Rows zC.row),sA 2 2 2 0,sI 1 x1],[(6,(zC.row v8)),(2,(CV.frzRow (zD.row x0)))]⟩ ?_
        rw [h9]
        refine mA zi [(29,[]),(30,[]),(31,[]),(32,[]),(33,[]),(34,[]),(35,[])] 0 [⟨[25],3,54,55⟩,⟨[2,24,25],3,33,34⟩] fun cx => ?_
        exact mE zi [68,28,27,26,2,1] [2]
       refine tB_ ?_
       refine gA 1 16 0 ?_
       refine te ?_
       obtain rfl := si H
       have H := Ho7
       dsimp only at H
       exact fF H
      have H := zM h8 H
      obtain ⟨v12,ev12,H⟩ := bs H
      refine sT ⟨82,0,[sI 5 y2,sA 6 6 3 0,sI 28 y2,sI 27 (x0.Rows.length : Int),sC 26 (cF 3 x0.Rows zC.row),sA 2 2 2 0,sI 1 x1],[(6,(zC.row v8)),(2,(CV.frzRow (zD.row x0)))]⟩ ?_
      cases h11 : (decide (v12.Id ≥ v8.Id))
      ·have H := zL h11 H
       obtain ⟨r13,er13,H⟩ := bs H
       obtain ⟨r14,er14,H⟩ := bs H
       refine sT ⟨82,0,[sI 5 y2,sA 6 6 3 0,sI 28 y2,sI 27 (x0.Rows.length : Int),sC 26 (cF 3 x0.Rows zC.row),sA 2 2 2 0,sI 1 x1],[(6,(zC.row v8)),(2,(CV.frzRow (zD.row x0)))]⟩ ?_
       cases h12 : (!r14)
       ·have H := zL h12 H
        refine Tr.draws mixed 36 kr ⟨82,0,[sB 68 ((IntKind.wrap .i64 (BitVec.ofInt (IntKind.bits .i64) v8.Bare &&& ~~~BitVec.ofInt (IntKind.bits .i64) v8.Members).toNat) != 0),sI 28 y2,sI 27 (x0.Rows.length : Int),sC 26 (cF 3 x0.Rows zC.row),sA 2 2 2 0,sI 1 x1],[(2,(CV.frzRow (zD.row x0)))]⟩ (fun cx => ?_) ?_
        ·refine mA zi [(0,[]),(1,[2,24,25])] 34 [⟨[2,24,25],3,33,34⟩] fun cx => ?_
         refine mC zi 2 ?_
         refine vA [.rd,.rd,.rd] (qU n v8.Id 1 99 r9 er9) ?_
         refine fA ?_
         refine mA zi [(3,[]),(4,[])] 31 [⟨[2,24,25],3,33,34⟩] fun cx => ?_
         refine sA_ 163678519398 68 ⟨82,0,[sB 37 (!r9),sI 34 v8.Id,sA 33 6 3 0,sI 5 y2,sA 6 6 3 0,sI 28 y2,sI 27 (x0.Rows.length : Int),sC 26 (cF 3 x0.Rows zC.row),sA 2 2 2 0,sI 1 x1],[(6,(zC.row v8)),(2,(CV.frzRow (zD.row x0)))]⟩ ?_
         rw [h7]
         refine mA zi [(5,[]),(6,[]),(7,[])] 28 [⟨[2,24,25],3,33,34⟩] fun cx => ?_
         refine sA_ 1263190147174 68 ⟨82,0,[sB 40 (decide (y2 > 0)),sB 37 false,sI 34 v8.Id,sA 33 6 3 0,sI 5 y2,sA 6 6 3 0,sI 28 y2,sI 27 (x0.Rows.length : Int),sC 26 (cF 3 x0.Rows zC.row),sA 2 2 2 0,sI 1 x1],[(6,(zC.row v8)),(2,(CV.frzRow (zD.row x0)))]⟩ ?_
         rw [h8]
         refine mA zi [(8,[]),(9,[24,25]),(10,[]),(11,[])] 24 [⟨[24,25],37,41,42⟩,⟨[2,24,25],3,33,34⟩] fun cx => ?_
         refine iN zi 12 zC.row ev12 fun cx => ?_
         refine mA zi [(13,[]),(14,[]),(15,[]),(16,[24,25]),(17,[]),(18,[]),(19,[]),(20,[])] 15 [⟨[24,25],3,48,49⟩,⟨[24,25],37,41,42⟩,⟨[2,24,25],3,33,34⟩] fun cx => ?_
         refine sA_ 9858247494205510 68 ⟨82,0,[sB 53 (decide (v12.Id ≥ v8.Id)),sI 49 v8.Id,sA 48 6 3 0,sR 42 2 2 0 1 false,sA 41 2 2 0,sI 34 v8.Id,sA 33 6 3 0,sA 6 6 3 0,sI 28 y2,sI 27 (x0.Rows.length : Int),sC 26 (cF 3 x0.Rows zC.row),sA 2 2 2 0,sI 1 x1],[(6,(zC.row v8)),(2,(CV.frzRow (zD.row x0)))]⟩ ?_
         rw [h11]
         exact zFL n x1 r13 v8 r14 y2 x0 er13 er14 h12 cx
        refine sT ⟨82,0,[sB 68 ((IntKind.wrap .i64 (BitVec.ofInt (IntKind.bits .i64) v8.Bare &&& ~~~BitVec.ofInt (IntKind.bits .i64) v8.Members).toNat) != 0),sI 28 y2,sI 27 (x0.Rows.length : Int),sC 26 (cF 3 x0.Rows zC.row),sA 2 2 2 0,sI 1 x1],[(2,(CV.frzRow (zD.row x0)))]⟩ ?_
        cases h13 : ((IntKind.wrap .i64 (BitVec.ofInt (IntKind.bits .i64) v8.Bare &&& ~~~BitVec.ofInt (IntKind.bits .i64) v8.Members).toNat) != 0)
        ·have H := zL h13 H
         refine nB_ ?_
         refine tK ?_
         refine eA 2 469762054 4 ?_
         exact jB mo7 (IntKind.wrap .i64 (y2 + 1)) H [28,27,26,2,1] [2]
        have H := zM h13 H
        refine tB_ ?_
        refine gA 1 16 0 ?_
        refine te ?_
        obtain rfl := si H
        have H := Ho7
        dsimp only at H
        exact fF H
       have H := zM h12 H
       refine Tr.draws mixed 36 kr ⟨82,0,[sB 68 true,sI 28 y2,sI 27 (x0.Rows.length : Int),sC 26 (cF 3 x0.Rows zC.row),sA 2 2 2 0,sI 1 x1],[(2,(CV.frzRow (zD.row x0)))]⟩ (fun cx => ?_) ?_
       ·refine mA zi [(0,[]),(1,[2,24,25])] 34 [⟨[2,24,25],3,33,34⟩] fun cx => ?_
        refine mC zi 2 ?_
        refine vA [.rd,.rd,.rd] (qU n v8.Id 1 99 r9 er9) ?_
        refine fA ?_
        refine mA zi [(3,[]),(4,[])] 31 [⟨[2,24,25],3,33,34⟩] fun cx => ?_
        refine sA_ 163678519398 68 ⟨82,0,[sB 37 (!r9),sI 34 v8.Id,sA 33 6 3 0,sI 5 y2,sA 6 6 3 0,sI 28 y2,sI 27 (x0.Rows.length : Int),sC 26 (cF 3 x0.Rows zC.row),sA 2 2 2 0,sI 1 x1],[(6,(zC.row v8)),(2,(CV.frzRow (zD.row x0)))]⟩ ?_
        rw [h7]
        refine mA zi [(5,[]),(6,[]),(7,[])] 28 [⟨[2,24,25],3,33,34⟩] fun cx => ?_
        refine sA_ 1263190147174 68 ⟨82,0,[sB 40 (decide (y2 > 0)),sB 37 false,sI 34 v8.Id,sA 33 6 3 0,sI 5 y2,sA 6 6 3 0,sI 28 y2,sI 27 (x0.Rows.length : Int),sC 26 (cF 3 x0.Rows zC.row),sA 2 2 2 0,sI 1 x1],[(6,(zC.row v8)),(2,(CV.frzRow (zD.row x0)))]⟩ ?_
        rw [h8]
        refine mA zi [(8,[]),(9,[24,25]),(10,[]),(11,[])] 24 [⟨[24,25],37,41,42⟩,⟨[2,24,25],3,33,34⟩] fun cx => ?_
        refine iN zi 12 zC.row ev12 fun cx => ?_
        refine mA zi [(13,[]),(14,[]),(15,[]),(16,[24,25]),(17,[]),(18,[]),(19,[]),(20,[])] 15 [⟨[24,25],3,48,49⟩,⟨[24,25],37,41,42⟩,⟨[2,24,25],3,33,34⟩] fun cx => ?_
        refine sA_ 9858247494205510 68 ⟨82,0,[sB 53 (decide (v12.Id ≥ v8.Id)),sI 49 v8.Id,sA 48 6 3 0,sR 42 2 2 0 1 false,sA 41 2 2 0,sI 34 v8.Id,sA 33 6 3 0,sA 6 6 3 0,sI 28 y2,sI 27 (x0.Rows.length : Int),sC 26 (cF 3 x0.Rows zC.row),sA 2 2 2 0,sI 1 x1],[(6,(zC.row v8)),(2,(CV.frzRow (zD.row x0)))]⟩ ?_
        rw [h11]
        exact zFM n x1 r13 v8 r14 y2 x0 er13 er14 h12 cx
       refine tB_ ?_
       refine gA 1 16 0 ?_
       refine te ?_
       obtain rfl := si H
       have H := Ho7
       dsimp only at H
       exact fF H
      have H := zM h11 H
      refine Tr.draws mixed 36 kr ⟨82,0,[sB 68 true,sI 28 y2,sI 27 (x0.Rows.length : Int),sC 26 (cF 3 x0.Rows zC.row),sA 2 2 2 0,sI 1 x1],[(2,(CV.frzRow (zD.row x0)))]⟩ (fun cx => ?_) ?_
      ·refine mA zi [(0,[]),(1,[2])] 34 [⟨[2],3,33,34⟩] fun cx => ?_
       refine mC zi 2 ?_
       refine vA [.rd,.rd,.rd] (qU n v8.Id 1 99 r9 er9) ?_
       refine fA ?_
       refine mA zi [(3,[]),(4,[])] 31 [⟨[2],3,33,34⟩] fun cx => ?_
       refine sA_ 163678519398 68 ⟨82,0,[sB 37 (!r9),sI 34 v8.Id,sA 33 6 3 0,sI 5 y2,sA 6 6 3 0,sI 28 y2,sI 27 (x0.Rows.length : Int),sC 26 (cF 3 x0.Rows zC.row),sA 2 2 2 0,sI 1 x1],[(6,(zC.row v8)),(2,(CV.frzRow (zD.row x0)))]⟩ ?_
       rw [h7]
       refine mA zi [(5,[]),(6,[]),(7,[])] 28 [⟨[2],3,33,34⟩] fun cx => ?_
       refine sA_ 1263190147174 68 ⟨82,0,[sB 40 (decide (y2 > 0)),sB 37 false,sI 34 v8.Id,sA 33 6 3 0,sI 5 y2,sA 6 6 3 0,sI 28 y2,sI 27 (x0.Rows.length : Int),sC 26 (cF 3 x0.Rows zC.row),sA 2 2 2 0,sI 1 x1],[(6,(zC.row v8)),(2,(CV.frzRow (zD.row x0)))]⟩ ?_
       rw [h8]
       refine mA zi [(8,[]),(9,[]),(10,[]),(11,[])] 24 [⟨[],37,41,42⟩,⟨[2],3,33,34⟩] fun cx => ?_
       refine iN zi 12 zC.row ev12 fun cx => ?_
       refine mA zi [(13,[]),(14,[]),(15,[]),(16,[]),(17,[]),(18,[]),(19,[]),(20,[])] 15 [⟨[],3,48,49⟩,⟨[],37,41,42⟩,⟨[2],3,33,34⟩] fun cx => ?_
       refine sA_ 9858247494205510 68 ⟨82,0,[sB 53 (decide (v12.Id ≥ v8.Id)),sI 49 v8.Id,sA 48 6 3 0,sR 42 2 2 0 1 false,sA 41 2 2 0,sI 34 v8.Id,sA 33 6 3 0,sA 6 6 3 0,sI 28 y2,sI 27 (x0.Rows.length : Int),sC 26 (cF 3 x0.Rows zC.row),sA 2 2 2 0,sI 1 x1],[(6,(zC.row v8)),(2,(CV.frzRow (zD.row x0)))]⟩ ?_
       rw [h11]
       exact zFN n v8 y2 x0 x1 cx
      refine tB_ ?_
      refine gA 1 16 0 ?_
      refine te ?_
      obtain rfl := si H
      have H := Ho7
      dsimp only at H
      exact fF H
     have H := zM h7 H
     refine Tr.draws mixed 36 kr ⟨82,0,[sB 68 true,sI 28 y2,sI 27 (x0.Rows.length : Int),sC 26 (cF 3 x0.Rows zC.row),sA 2 2 2 0,sI 1 x1],[(2,(CV.frzRow (zD.row x0)))]⟩ (fun cx => ?_) ?_
     ·refine mA zi [(0,[]),(1,[2])] 34 [⟨[2],3,33,34⟩] fun cx => ?_
      refine mC zi 2 ?_
      refine vA [.rd,.rd,.rd] (qU n v8.Id 1 99 r9 er9) ?_
      refine fA ?_
      refine mA zi [(3,[]),(4,[])] 31 [⟨[2],3,33,34⟩] fun cx => ?_
      refine sA_ 163678519398 68 ⟨82,0,[sB 37 (!r9),sI 34 v8.Id,sA 33 6 3 0,sI 5 y2,sA 6 6 3 0,sI 28 y2,sI 27 (x0.Rows.length : Int),sC 26 (cF 3 x0.Rows zC.row),sA 2 2 2 0,sI 1 x1],[(6,(zC.row v8)),(2,(CV.frzRow (zD.row x0)))]⟩ ?_
      rw [h7]
      refine mA zi [(5,[]),(6,[]),(7,[]),(8,[]),(9,[]),(10,[]),(11,[]),(12,[]),(13,[]),(14,[]),(15,[]),(16,[]),(17,[]),(18,[]),(19,[]),(20,[]),(21,[]),(22,[]),(23,[]),(24,[]),(25,[]),(26,[]),(27,[]),(28,[]),(29,[]),(30,[]),(31,[]),(32,[]),(33,[]),(34,[]),(35,[])] 0 [⟨[2],3,33,34⟩] fun cx => ?_
      exact mE zi [68,28,27,26,2,1] [2]
     refine tB_ ?_
     refine gA 1 16 0 ?_
     refine te ?_
     obtain rfl := si H
     have H := Ho7
     dsimp only at H
     exact fF H
    rintro _ H
    have H : (Q1 n x0) = some r := H
    unfold Q1 at H
    refine tS ?_
    refine rA 2 ?_
    refine kF x0.Pv intRow ?_
    refine uA 1 0x3800000000000000004 4 ?_
    obtain ⟨o4,eo4,Ho4⟩ := bs H
    clear H
    refine Tr.mid (ι := Unit) (fun v => ⟨82,0,[],[]⟩) (fun v => Y8 n = some r) ?_ ?_
    ·refine tB ?_
     refine Tr.loop (ι := Nat × (Int)) (fun v => ⟨82,0,[sI 73 v.2,sI 72 (x0.Pv.length : Int),sC 71 (cF 1 x0.Pv intRow),sA 2 2 2 0],[(2,(CV.frzRow (zD.row x0)))]⟩) (fun v => Zb n v.1 x0 v.2 = some o4) (fun v => v.1) (n,0) eo4 (St.sub_of [73,72,71,2] [2] kr) ?_
     rintro ⟨mo4,y3⟩ H
     have H : Zb n mo4 x0 y3 = some o4 := H
     obtain _ | mo4 := mo4
     ·exact nN H
     rw [Zb] at H
     refine gA 1 0x7800000000000000004 4 ?_
     refine tS ?_
     obtain ⟨h4,H⟩ | ⟨h4,H⟩ := bC H
     ·refine nA h4 ?_
      refine Tr.exit ?_
      refine aJ ?_
      obtain rfl := si H
      have H := Ho4
      dsimp only at H
      exact jA () H [] []
     refine tA h4 ?_
     refine tK ?_
     refine tS ?_
     refine tB ?_
     refine tR ?_
     obtain ⟨v5,ev5,H⟩ := bs H
     refine iA intRow ev5 ?_
     refine uA 2 0x3800000000000000104 4 ?_
     refine rA 2 ?_
     obtain ⟨r6,er6,H⟩ := bs H
     refine vA [.rd,.rd] (zHi n x0 v5 r6 er6) ?_
     refine uA 1 0x103800000000000000004 4 ?_
     obtain ⟨h5,H⟩ | ⟨h5,H⟩ := bC H
     ·refine nA h5 ?_
      refine tK ?_
      refine eA 2 0x3800000000000000004 4 ?_
      exact jB mo4 (IntKind.wrap .i64 (y3 + 1)) H [73,72,71,2] [2]
     refine tA h5 ?_
     refine gA 1 16 0 ?_
     refine te ?_
     obtain rfl := si H
     have H := Ho4
     dsimp only at H
     exact fF H
    rintro _ H
    have H : (Y8 n) = some r := H
    unfold Y8 at H
    refine gA 1 16 0 ?_
    exact te (fT H)
   refine tA h3 ?_
   refine gA 1 16 0 ?_
   exact te (fF H)
  have H := zM h2 H
  refine uA 5 16777222 4 ?_
  refine tB_ ?_
  refine gA 1 16 0 ?_
  exact te (fF H)
 have H := zM h1 H
 refine uA 12 16777222 4 ?_
 refine tB_ ?_
 refine gA 1 16 0 ?_
 exact te (fF H)
def Zu (n : Nat) (x0 : Int) : Option (Bool) :=
  ((qN n x0 0 1000000).bind fun r1 => (some r1))
theorem Ys (n : Nat) (x0 : Int) (r : Bool) (H : Zu n x0 = some r) : zK Try.prog 63 [.val false [.lit (.int .i64 x0)]] [.val false [.lit (.bool r)]] [] := by
 refine cW Try.func63 (fun g d => sl [g 0,g 1] .ret) [.tmp 2] fun cx => ?_
 unfold Zu at H
 refine gA 1 1 0 ?_
 refine rA 1 ?_
 obtain ⟨r1,er1,H⟩ := bs H
 refine vA [.rd,.rd,.rd] (qU n x0 0 1000000 r1 er1) ?_
 refine uA 1 4 0 ?_
 exact te (fJ [(false,[cB r1])] H)
def Qh (n : Nat) (x0 : zA) : Option (Bool) :=
  ((qN n x0.Id 1 99).bind fun r2 => (bif (!r2) then (some false) else (bif (decide ((x0.Name.size : Int) > 10)) then (some false) else ((qN n (x0.Ps.length : Int) 1 6).bind fun r3 => (bif (!r3) then (some false) else ((JO n x0.F).bind fun r4 => (bif (!r4) then (some false) else ((Yq n x0.V (x0.Ps.length : Int)).bind fun r5 => (bif (!r5) then (some false) else ((Zu n x0.Tk).bind fun r6 => (bif r6 then ((Zu n x0.Pa).bind fun r7 => (bif r7 then ((Zu n x0.Wo).bind fun r8 => (bif r8 then ((Zu n x0.Dr).bind fun r9 => (bif r9 then ((Zu n x0.Ve).bind fun r10 => (some r10)) else (some false))) else (some false))) else (some false))) else (some false))))))))))))
def ZX (n : Nat) : Nat → zA → Int → Option ((Unit) ⊕ (Bool))
  | 0,_,_ => none
  | mo11 + 1,x0,y1 => (bif (decide (y1 < (x0.Ps.length : Int))) then ((idx x0.Ps y1).bind fun v12 => ((J1 n v12).bind fun r13 => (bif (!r13) then (some (Sum.inr false)) else (ZX n mo11 x0 (IntKind.wrap .i64 (y1 + 1)))))) else (some (Sum.inl ())))
def zQ (n : Nat) (x0 : zA) : Option (Bool) :=
  ((ZX n n x0 0).bind fun o => match o with | .inl _ => (Qh n x0) | .inr r => some r)
theorem zl (n : Nat) (x0 : zA) (r : Bool) (H : zQ n x0 = some r) : zK Try.prog 24 [.val true (CV.frzRow (zA.row x0))] [.val false [.lit (.bool r)]] [] := by
 refine cW Try.func24 (fun g d => sl [g 0,sl [g 1] (.block 0 (.loop (sl [g 2,cn 9 .skip (.exit 0),.block 1 (sl [g 3,g 4] (cn 14 (sl [g 5] .ret) .skip))] (g 6)))),sl [g 7] (cn 47 (sl [g 8] .ret) .skip),g 9] .ret) [.tmp 2] fun cx => ?_
 unfold zQ at H
 refine gA 2 2 2 ?_
 refine tS ?_
 refine rA 2 ?_
 refine kF x0.Ps Pt.row ?_
 refine uA 1 450 2 ?_
 obtain ⟨o11,eo11,Ho11⟩ := bs H
 clear H
 refine Tr.mid (ι := Unit) (fun v => ⟨71,0,[sA 1 1 11 0],[(1,(CV.frzRow (zA.row x0)))]⟩) (fun v => Qh n x0 = some r) ?_ ?_
 ·refine tB ?_
  refine Tr.loop (ι := Nat × (Int)) (fun v => ⟨71,0,[sI 8 v.2,sI 7 (x0.Ps.length : Int),sC 6 (cF 8 x0.Ps Pt.row),sA 1 1 11 0],[(1,(CV.frzRow (zA.row x0)))]⟩) (fun v => ZX n v.1 x0 v.2 = some o11) (fun v => v.1) (n,0) eo11 (St.sub_of [8,7,6,1] [1] kr) ?_
  rintro ⟨mo11,y1⟩ H
  have H : ZX n mo11 x0 y1 = some o11 := H
  obtain _ | mo11 := mo11
  ·exact nN H
  rw [ZX] at H
  refine gA 1 962 2 ?_
  refine tS ?_
  obtain ⟨h10,H⟩ | ⟨h10,H⟩ := bC H
  ·refine nA h10 ?_
   refine Tr.exit ?_
   refine aJ ?_
   obtain rfl := si H
   have H := Ho11
   dsimp only at H
   exact jA () H [1] [1]
  refine tA h10 ?_
  refine tK ?_
  refine tS ?_
  refine tB ?_
  refine tR ?_
  obtain ⟨v12,ev12,H⟩ := bs H
  refine iA Pt.row ev12 ?_
  refine uA 3 466 18 ?_
  refine rA 1 ?_
  obtain ⟨r13,er13,H⟩ := bs H
  refine vA [.rd] (zIE n v12 r13 er13) ?_
  refine uA 1 16834 2 ?_
  obtain ⟨h11,H⟩ | ⟨h11,H⟩ := bC H
  ·refine nA h11 ?_
   refine tK ?_
   refine eA 2 450 2 ?_
   exact jB mo11 (IntKind.wrap .i64 (y1 + 1)) H [8,7,6,1] [1]
  refine tA h11 ?_
  refine gA 1 4 0 ?_
  refine te ?_
  obtain rfl := si H
  have H := Ho11
  dsimp only at H
  exact fF H
 rintro _ H
 have H : (Qh n x0) = some r := H
 unfold Qh at H
 refine tS ?_
 refine rA 2 ?_
 obtain ⟨r2,er2,H⟩ := bs H
 refine vA [.rd,.rd,.rd] (qU n x0.Id 1 99 r2 er2) ?_
 refine lA 2 ?_
 refine sL 1048578 2 ⟨71,0,[sB 20 (!r2),sA 1 1 11 0],[(1,(CV.frzRow (zA.row x0)))]⟩ ?_
 cases h1 : (!r2)
 ·have H := zL h1 H
  refine lA 6 ?_
  refine sL 67108866 2 ⟨71,0,[sB 26 (decide ((x0.Name.size : Int) > 10)),sA 1 1 11 0],[(1,(CV.frzRow (zA.row x0)))]⟩ ?_
  cases h2 : (decide ((x0.Name.size : Int) > 10))
  ·have H := zL h2 H
   refine lA 2 ?_
   refine kF x0.Ps Pt.row ?_
   obtain ⟨r3,er3,H⟩ := bs H
   refine vA [.rd,.rd,.rd] (qU n (x0.Ps.length : Int) 1 6 r3 er3) ?_
   refine lA 3 ?_
   refine sL 8589934594 2 ⟨71,0,[sB 33 (!r3),sA 1 1 11 0],[(1,(CV.frzRow (zA.row x0)))]⟩ ?_
   cases h3 : (!r3)
   ·have H := zL h3 H
    refine lA 2 ?_
    obtain ⟨r4,er4,H⟩ := bs H
    refine vA [.rd] (zHh n x0.F r4 er4) ?_
    refine lA 3 ?_
    refine sL 549755813890 2 ⟨71,0,[sB 39 (!r4),sA 1 1 11 0],[(1,(CV.frzRow (zA.row x0)))]⟩ ?_
    cases h4 : (!r4)
    ·have H := zL h4 H
     refine lA 4 ?_
     refine kF x0.Ps Pt.row ?_
     obtain ⟨r5,er5,H⟩ := bs H
     refine vA [.rd,.rd] (zGz n x0.V (x0.Ps.length : Int) r5 er5) ?_
     refine uA 2 0x800000000002 2 ?_
     obtain ⟨h5,H⟩ | ⟨h5,H⟩ := bC H
     ·refine nA h5 ?_
      refine tK ?_
      refine rA 2 ?_
      obtain ⟨r6,er6,H⟩ := bs H
      refine vA [.rd] (Ys n x0.Tk r6 er6) ?_
      refine lA 1 ?_
      refine sL 0x8000000000002 2 ⟨71,0,[sB 51 r6,sA 1 1 11 0],[(1,(CV.frzRow (zA.row x0)))]⟩ ?_
      cases h6 : r6
      ·have H := zL h6 H
       refine uA 20 4 0 ?_
       exact te (fF H)
      have H := zM h6 H
      refine lA 2 ?_
      obtain ⟨r7,er7,H⟩ := bs H
      refine vA [.rd] (Ys n x0.Pa r7 er7) ?_
      refine lA 2 ?_
      refine sL 72057594037927938 2 ⟨71,0,[sB 56 r7,sA 1 1 11 0],[(1,(CV.frzRow (zA.row x0)))]⟩ ?_
      cases h7 : r7
      ·have H := zL h7 H
       refine uA 15 4 0 ?_
       exact te (fF H)
      have H := zM h7 H
      refine lA 2 ?_
      obtain ⟨r8,er8,H⟩ := bs H
      refine vA [.rd] (Ys n x0.Wo r8 er8) ?_
      refine lA 2 ?_
      refine sL 0x2000000000000002 2 ⟨71,0,[sB 61 r8,sA 1 1 11 0],[(1,(CV.frzRow (zA.row x0)))]⟩ ?_
      cases h8 : r8
      ·have H := zL h8 H
       refine uA 10 4 0 ?_
       exact te (fF H)
      have H := zM h8 H
      refine lA 2 ?_
      obtain ⟨r9,er9,H⟩ := bs H
      refine vA [.rd] (Ys n x0.Dr r9 er9) ?_
      refine lA 2 ?_
      refine sL 0x40000000000000002 2 ⟨71,0,[sB 66 r9,sA 1 1 11 0],[(1,(CV.frzRow (zA.row x0)))]⟩ ?_
      cases h9 : r9
      ·have H := zL h9 H
       refine uA 5 4 0 ?_
       exact te (fF H)
      have H := zM h9 H
      refine lA 2 ?_
      obtain ⟨r10,er10,H⟩ := bs H
      refine vA [.rd] (Ys n x0.Ve r10 er10) ?_
      refine uA 2 4 0 ?_
      exact te (fJ [(false,[cB r10])] H)
     refine tA h5 ?_
     refine gA 1 4 0 ?_
     exact te (fF H)
    have H := zM h4 H
    refine uA 8 0x800000000002 2 ?_
    refine tB_ ?_
    refine gA 1 4 0 ?_
    exact te (fF H)
   have H := zM h3 H
   refine uA 14 0x800000000002 2 ?_
   refine tB_ ?_
   refine gA 1 4 0 ?_
   exact te (fF H)
  have H := zM h2 H
  refine uA 21 0x800000000002 2 ?_
  refine tB_ ?_
  refine gA 1 4 0 ?_
  exact te (fF H)
 have H := zM h1 H
 refine uA 27 0x800000000002 2 ?_
 refine tB_ ?_
 refine gA 1 4 0 ?_
 exact te (fF H)
def Q4 (n : Nat) (x0 : zA) (x1 : Int) : Option (Bool) :=
  ((zQ n x0).bind fun r1 => (bif r1 then ((qN n x1 0 (IntKind.wrap .i64 ((x0.Ps.length : Int) - 1))).bind fun r2 => (some r2)) else (some false)))
theorem zD0 (n : Nat) (x0 : zA) (x1 : Int) (r : Bool) (H : Q4 n x0 x1 = some r) : zK Try.prog 54 [.val true (CV.frzRow (zA.row x0)),.val false [.lit (.int .i64 x1)]] [.val false [.lit (.bool r)]] [] := by
 refine cW Try.func54 (fun g d => sl [g 0,g 1] .ret) [.tmp 4] fun cx => ?_
 unfold Q4 at H
 refine gA 2 6 4 ?_
 refine rA 1 ?_
 obtain ⟨r1,er1,H⟩ := bs H
 refine vA [.rd] (zl n x0 r1 er1) ?_
 refine lA 1 ?_
 refine sL 134 4 ⟨15,0,[sB 7 r1,sA 2 2 11 0,sI 1 x1],[(2,(CV.frzRow (zA.row x0)))]⟩ ?_
 cases h1 : r1
 ·have H := zL h1 H
  refine uA 8 16 0 ?_
  exact te (fF H)
 have H := zM h1 H
 refine lA 3 ?_
 refine kF x0.Ps Pt.row ?_
 refine lA 1 ?_
 obtain ⟨r2,er2,H⟩ := bs H
 refine vA [.rd,.rd,.rd] (qU n x1 0 (IntKind.wrap .i64 ((x0.Ps.length : Int) - 1)) r2 er2) ?_
 refine uA 2 16 0 ?_
 exact te (fJ [(false,[cB r2])] H)
def JA (n : Nat) (x0 : Int) : Option (Int) :=
  (some (if 1000000 < (IntKind.wrap .i64 (x0 + 1)) then 1000000 else (IntKind.wrap .i64 (x0 + 1))))
theorem zFr (n : Nat) (x0 : Int) (r : Int) (H : JA n x0 = some r) : zK Try.prog 56 [.val false [.lit (.int .i64 x0)]] [.val false [.lit (.int .i64 r)]] [] := by
 refine cW Try.func56 (fun g d => sl [g 0,g 1] .ret) [.tmp 2] fun cx => ?_
 unfold JA at H
 refine gA 1 1 0 ?_
 refine gA 4 4 0 ?_
 exact te (fJ [(false,[cI (if 1000000 < (IntKind.wrap .i64 (x0 + 1)) then 1000000 else (IntKind.wrap .i64 (x0 + 1)))])] H)
def JZ (n : Nat) (x0 : Vec) (x1 : Int) : Option (Vec × Bool) :=
  ((Z6 n x0).bind fun r1 => (bif (!r1) then (some (x0,false)) else ((qN n x1 1 1000).bind fun r2 => (bif (!r2) then (some (x0,false)) else ((Z6 n (⟨x0.Root,(IntKind.wrap .i64 (x0.Co + x1)),(IntKind.wrap .i64 (x0.Hops + 1)),x0.Bridge,x0.Port⟩ : Vec)).bind fun r3 => (bif (!r3) then (some (x0,false)) else (some ((⟨x0.Root,(IntKind.wrap .i64 (x0.Co + x1)),(IntKind.wrap .i64 (x0.Hops + 1)),x0.Bridge,x0.Port⟩ : Vec),true))))))))
theorem zGV (n : Nat) (x0 : Vec) (x1 : Int) (r : Vec × Bool) (H : JZ n x0 x1 = some r) : zK Try.prog 160 [.val true (CV.frzRow (Vec.row x0)),.val false [.lit (.int .i64 x1)]] [.val true (Vec.row r.1),.val false [.lit (.bool r.2)]] [] := by
 refine cW Try.func160 (fun g d => sl [g 0,sl [g 1] (cn 14 (sl [g 2] .ret) .skip),g 3,g 4,g 5,sl [g 6] (cn 28 (sl [g 7] .ret) .skip),g 8] .ret) [.cell 4 46,.tmp 5] fun cx => ?_
 unfold JZ at H
 refine gA 3 22 20 ?_
 refine tS ?_
 refine rA 1 ?_
 obtain ⟨r1,er1,H⟩ := bs H
 refine vA [.rd] (J4 n x0 r1 er1) ?_
 refine lA 2 ?_
 refine sL 1046 20 ⟨31,0,[sB 10 (!r1),sA 4 4 5 0,sA 2 2 5 0,sI 1 x1],[(4,[cI 0,cI 0,cI 0,cI 0,cI 0]),(2,(Vec.row x0))]⟩ ?_
 cases h1 : (!r1)
 ·have H := zL h1 H
  refine lA 1 ?_
  obtain ⟨r2,er2,H⟩ := bs H
  refine vA [.rd,.rd,.rd] (qU n x1 1 1000 r2 er2) ?_
  refine uA 2 16406 20 ?_
  obtain ⟨h2,H⟩ | ⟨h2,H⟩ := bC H
  ·refine nA h2 ?_
   refine tK ?_
   refine gA 3 86 84 ?_
   refine gA 6 84 84 ?_
   refine gA 5 84 84 ?_
   refine tS ?_
   refine rA 1 ?_
   obtain ⟨r3,er3,H⟩ := bs H
   refine vA [.rd] (J4 n (⟨x0.Root,(IntKind.wrap .i64 (x0.Co + x1)),(IntKind.wrap .i64 (x0.Hops + 1)),x0.Bridge,x0.Port⟩ : Vec) r3 er3) ?_
   refine uA 1 268435540 84 ?_
   obtain ⟨h3,H⟩ | ⟨h3,H⟩ := bC H
   ·refine nA h3 ?_
    refine tK ?_
    refine gA 3 48 16 ?_
    exact te (fJ [(true,[cI x0.Root,cI (IntKind.wrap .i64 (x0.Co + x1)),cI (IntKind.wrap .i64 (x0.Hops + 1)),cI x0.Bridge,cI x0.Port]),(false,[cB true])] H)
   refine tA h3 ?_
   refine gA 3 48 16 ?_
   exact te (fJ [(true,(Vec.row x0)),(false,[cB false])] H)
  refine tA h2 ?_
  refine gA 3 48 16 ?_
  exact te (fJ [(true,(Vec.row x0)),(false,[cB false])] H)
 have H := zM h1 H
 refine uA 4 16406 20 ?_
 refine tB_ ?_
 refine gA 3 48 16 ?_
 exact te (fJ [(true,(Vec.row x0)),(false,[cB false])] H)
def YM (n : Nat) (x0 : Vec) (x1 : Vec) : Option (Bool) :=
  (bif (x0.Root != x1.Root) then (some (decide (x0.Root < x1.Root))) else (bif (x0.Co != x1.Co) then (some (decide (x0.Co < x1.Co))) else (bif (x0.Bridge != x1.Bridge) then (some (decide (x0.Bridge < x1.Bridge))) else (some (decide (x0.Port < x1.Port))))))
theorem zC5 (n : Nat) (x0 : Vec) (x1 : Vec) (r : Bool) (H : YM n x0 x1 = some r) : zK Try.prog 112 [.val true (CV.frzRow (Vec.row x0)),.val true (CV.frzRow (Vec.row x1))] [.val false [.lit (.bool r)]] [] := by
 refine cW Try.func112 (fun g d => sl [g 0,.block 0 (sl [g 1] (cn 5 (sl [g 2] .ret) (sl [g 3] (cn 16 (sl [g 4] .ret) (sl [g 5] (cn 27 (sl [g 6] .ret) .skip)))))),g 7] .ret) [.tmp 4] fun cx => ?_
 unfold YM at H
 refine gA 3 12 12 ?_
 refine tS ?_
 refine tB ?_
 refine gA 6 44 12 ?_
 obtain ⟨h1,H⟩ | ⟨h1,H⟩ := bC H
 ·refine nA h1 ?_
  refine gA 6 65548 12 ?_
  obtain ⟨h2,H⟩ | ⟨h2,H⟩ := bC H
  ·refine nA h2 ?_
   refine gA 6 134217740 12 ?_
   obtain ⟨h3,H⟩ | ⟨h3,H⟩ := bC H
   ·refine nA h3 ?_
    refine tK ?_
    refine gA 6 16 0 ?_
    exact te (fJ [(false,[cB (decide (x0.Port < x1.Port))])] H)
   refine tA h3 ?_
   refine gA 6 16 0 ?_
   exact te (fJ [(false,[cB (decide (x0.Bridge < x1.Bridge))])] H)
  refine tA h2 ?_
  refine gA 6 16 0 ?_
  exact te (fJ [(false,[cB (decide (x0.Co < x1.Co))])] H)
 refine tA h1 ?_
 refine gA 6 16 0 ?_
 exact te (fJ [(false,[cB (decide (x0.Root < x1.Root))])] H)
def Ye (n : Nat) (x0 : Int) (y11 : Int) (y12 : Int) (y13 : Int) (y14 : Int) : Option (Vec × Int) :=
  (some ((⟨y12,y13,y14,x0,0⟩ : Vec),y11))
def ZP (n : Nat) (k : (Int × Int × Int × Int × Int × Int × Int × Int × Int × Int → Option ((Int × Int × Int × Int) ⊕ (Vec × Int)))) (r17 : Vec × Bool) (y1 : Int) (y10 : Int) (y2 : Int) (y3 : Int) (y4 : Int) (y5 : Int) (y6 : Int) (y7 : Int) (y8 : Int) (y9 : Int) (y18 : Bool) (y19 : Bool) (y20 : Bool) (y21 : Bool) (y22 : Bool) (y23 : Bool) (y24 : Bool) : Option ((Int × Int × Int × Int) ⊕ (Vec × Int)) :=
  (bif y18 then (k ((IntKind.wrap .i64 (y1 + 1)),y1,r17.1.Root,r17.1.Co,r17.1.Hops,r17.1.Bridge,r17.1.Port,r17.1.Root,r17.1.Co,r17.1.Hops)) else (k ((IntKind.wrap .i64 (y1 + 1)),y2,y3,y4,y5,y6,y7,y8,y9,y10)))
def qH (n : Nat) : Nat → Int → (List Pt) → Int → Int → Int → Int → Int → Int → Int → Int → Int → Int → Option ((Int × Int × Int × Int) ⊕ (Vec × Int))
  | 0,_,_,_,_,_,_,_,_,_,_,_,_ => none
  | mo15 + 1,x0,x1,y1,y2,y3,y4,y5,y6,y7,y8,y9,y10 => (bif (decide (y1 < (x1.length : Int))) then ((idx x1 y1).bind fun v16 => (bif (!v16.Up) then (qH n mo15 x0 x1 (IntKind.wrap .i64 (y1 + 1)) y2 y3 y4 y5 y6 y7 y8 y9 y10) else (bif (!v16.Has) then (qH n mo15 x0 x1 (IntKind.wrap .i64 (y1 + 1)) y2 y3 y4 y5 y6 y7 y8 y9 y10) else ((JZ n v16.Hd v16.Co).bind fun r17 => (bif r17.2 then (bif (decide (r17.1.Root < x0)) then (bif (decide (y2 < 0)) then (ZP n (fun v => qH n mo15 x0 x1 v.1 v.2.1 v.2.2.1 v.2.2.2.1 v.2.2.2.2.1 v.2.2.2.2.2.1 v.2.2.2.2.2.2.1 v.2.2.2.2.2.2.2.1 v.2.2.2.2.2.2.2.2.1 v.2.2.2.2.2.2.2.2.2) r17 y1 y10 y2 y3 y4 y5 y6 y7 y8 y9 true true true true true true true) else ((YM n r17.1 (⟨y3,y4,y5,y6,y7⟩ : Vec)).bind fun r25 => (ZP n (fun v => qH n mo15 x0 x1 v.1 v.2.1 v.2.2.1 v.2.2.2.1 v.2.2.2.2.1 v.2.2.2.2.2.1 v.2.2.2.2.2.2.1 v.2.2.2.2.2.2.2.1 v.2.2.2.2.2.2.2.2.1 v.2.2.2.2.2.2.2.2.2) r17 y1 y10 y2 y3 y4 y5 y6 y7 y8 y9 r25 true true true true true true))) else (ZP n (fun v => qH n mo15 x0 x1 v.1 v.2.1 v.2.2.1 v.2.2.2.1 v.2.2.2.2.1 v.2.2.2.2.2.1 v.2.2.2.2.2.2.1 v.2.2.2.2.2.2.2.1 v.2.2.2.2.2.2.2.2.1 v.2.2.2.2.2.2.2.2.2) r17 y1 y10 y2 y3 y4 y5 y6 y7 y8 y9 false false false true true true true)) else (ZP n (fun v => qH n mo15 x0 x1 v.1 v.2.1 v.2.2.1 v.2.2.2.1 v.2.2.2.2.1 v.2.2.2.2.2.1 v.2.2.2.2.2.2.1 v.2.2.2.2.2.2.2.1 v.2.2.2.2.2.2.2.2.1 v.2.2.2.2.2.2.2.2.2) r17 y1 y10 y2 y3 y4 y5 y6 y7 y8 y9 false false false false false false false)))))) else (some (Sum.inl (y2,y8,y9,y10))))
def Qo (n : Nat) (x0 : Int) (x1 : (List Pt)) : Option (Vec × Int) :=
  ((qH n n x0 x1 0 (-1) 0 0 0 0 0 x0 0 0).bind fun o => match o with | .inl (y11,y12,y13,y14) => (Ye n x0 y11 y12 y13 y14) | .inr r => some r)
theorem zC3 (n : Nat) (x0 : Int) (x1 : (List Pt)) (r : Vec × Int) (H : Qo n x0 x1 = some r) : zK Try.prog 111 [.val false [.lit (.int .i64 x0)],.val false [.sl false 8 (CV.frzEs (x1.map Pt.row))]] [.val true (Vec.row r.1),.val false [.lit (.int .i64 r.2)]] [] := by
 refine cW Try.func111 (fun g d => sl [g 0,g 1,g 2,sl [g 3] (.block 0 (.loop (sl [g 4,cn 19 .skip (.exit 0),.block 1 (sl [g 5,sl [g 6] (cn 30 (.exit 1) .skip),g 7,g 8] (cn 54 (sl [g 9] (g 10)) .skip))] (g 11)))),g 12] .ret) [.cell 4 46,.tmp 5] fun cx => ?_
 unfold Qo at H
 refine gA 2 51 16 ?_
 refine gA 6 243 80 ?_
 refine gA 1 499 336 ?_
 refine tS ?_
 refine rA 1 ?_
 refine kF x1 Pt.row ?_
 refine uA 1 459249 336 ?_
 obtain ⟨o15,eo15,Ho15⟩ := bs H
 clear H
 refine Tr.mid (ι := Int × Int × Int × Int) (fun v => ⟨68,0,[sI 7 v.1,sA 6 6 5 0,sI 5 0,sA 4 4 5 0],[(6,[cI v.2.1,cI v.2.2.1,cI v.2.2.2,cI x0,cI 0]),(4,[cI 0,cI 0,cI 0,cI 0,cI 0])]⟩) (fun v => Ye n x0 v.1 v.2.1 v.2.2.1 v.2.2.2 = some r) ?_ ?_
 ·refine tB ?_
  refine Tr.loop (ι := Nat × (Int × Int × Int × Int × Int × Int × Int × Int × Int × Int)) (fun v => ⟨68,0,[sI 18 v.2.1,sI 17 (x1.length : Int),sC 16 (cF 8 x1 Pt.row),sA 8 8 5 0,sI 7 v.2.2.1,sA 6 6 5 0,sI 5 0,sA 4 4 5 0,sI 0 x0],[(8,[cI v.2.2.2.1,cI v.2.2.2.2.1,cI v.2.2.2.2.2.1,cI v.2.2.2.2.2.2.1,cI v.2.2.2.2.2.2.2.1]),(6,[cI v.2.2.2.2.2.2.2.2.1,cI v.2.2.2.2.2.2.2.2.2.1,cI v.2.2.2.2.2.2.2.2.2.2,cI x0,cI 0]),(4,[cI 0,cI 0,cI 0,cI 0,cI 0])]⟩) (fun v => qH n v.1 x0 x1 v.2.1 v.2.2.1 v.2.2.2.1 v.2.2.2.2.1 v.2.2.2.2.2.1 v.2.2.2.2.2.2.1 v.2.2.2.2.2.2.2.1 v.2.2.2.2.2.2.2.2.1 v.2.2.2.2.2.2.2.2.2.1 v.2.2.2.2.2.2.2.2.2.2 = some o15) (fun v => v.1) (n,(0,(-1),0,0,0,0,0,x0,0,0)) eo15 (St.sub_of [18,17,16,8,7,6,5,4,0] [8,6,4] kr) ?_
  rintro ⟨mo15,y1,y2,y3,y4,y5,y6,y7,y8,y9,y10⟩ H
  have H : qH n mo15 x0 x1 y1 y2 y3 y4 y5 y6 y7 y8 y9 y10 = some o15 := H
  obtain _ | mo15 := mo15
  ·exact nN H
  rw [qH] at H
  refine gA 1 983537 336 ?_
  refine tS ?_
  obtain ⟨h1,H⟩ | ⟨h1,H⟩ := bC H
  ·refine nA h1 ?_
   refine Tr.exit ?_
   refine aJ ?_
   obtain rfl := si H
   have H := Ho15
   dsimp only at H
   exact jA (y2,y8,y9,y10) H [7,6,5,4] [6,4]
  refine tA h1 ?_
  refine tK ?_
  refine tS ?_
  refine tB ?_
  refine rA 1 ?_
  obtain ⟨v16,ev16,H⟩ := bs H
  refine iA Pt.row ev16 ?_
  refine uA 4 8325105 1360 ?_
  refine tS ?_
  refine rA 4 ?_
  refine sL 134154225 1360 ⟨68,0,[sB 26 (!v16.Up),sB 25 (!v16.Up),sB 24 v16.Up,sA 23 10 8 0,sI 9 y1,sA 10 10 8 0,sV 22 (Pt.row v16),(21,.fad ((Pt.row v16))),sI 20 y1,sB 19 (decide (y1 < (x1.length : Int))),sI 18 y1,sI 17 (x1.length : Int),sC 16 (cF 8 x1 Pt.row),sA 8 8 5 0,sI 7 y2,sA 6 6 5 0,sI 5 0,sA 4 4 5 0,sI 0 x0],[(10,(Pt.row v16)),(8,[cI y3,cI y4,cI y5,cI y6,cI y7]),(6,[cI y8,cI y9,cI y10,cI x0,cI 0]),(4,[cI 0,cI 0,cI 0,cI 0,cI 0])]⟩ ?_
  cases h2 : (!v16.Up)
  ·have H := zL h2 H
   refine uA 4 2147420145 1360 ?_
   obtain ⟨h3,H⟩ | ⟨h3,H⟩ := bC H
   ·refine nA h3 ?_
    refine tK ?_
    refine rA 4 ?_
    obtain ⟨r17,er17,H⟩ := bs H
    refine vA [.rd,.rd] (zGV n v16.Hd v16.Co r17 er17) ?_
    refine LAt.movT tOk (ty := 198) (t := 36) (d := 31) (g := none) [(true,(Vec.row r17.1)),(false,[cB r17.2])] _ kr (.inl rfl) kr kr kr kr rfl ?_
    refine uA 5 481036279793 3408 ?_
    refine tS ?_
    refine Tr.mid (ι := Bool × Bool × Bool × Bool × Bool × Bool × Bool) (fun v => ⟨68,0,[sB 54 v.1,sB 46 v.2.1,sB 45 v.2.2.1,sB 40 v.2.2.2.1,sB 39 v.2.2.2.2.1,sB 12 v.2.2.2.2.2.1,sA 11 11 5 0,sB 38 v.2.2.2.2.2.2,(31,.tup [(true,[.dead,.dead,.dead,.dead,.dead]),(false,[.dead])]),sV 37 (Vec.row r17.1),sI 35 v16.Co,sA 34 10 8 1,sV 33 ((Pt.row v16).drop 3),sA 32 10 8 3,sB 30 false,sB 29 false,sB 28 v16.Has,sA 27 10 8 2,sB 26 false,sB 25 false,sB 24 v16.Up,sA 23 10 8 0,sI 9 y1,sA 10 10 8 0,sV 22 (Pt.row v16),(21,.fad ((Pt.row v16))),sI 20 y1,sB 19 true,sI 18 y1,sI 17 (x1.length : Int),sC 16 (cF 8 x1 Pt.row),sA 8 8 5 0,sI 7 y2,sA 6 6 5 0,sI 5 0,sA 4 4 5 0,sI 0 x0],[(11,(Vec.row r17.1)),(10,(Pt.row v16)),(8,[cI y3,cI y4,cI y5,cI y6,cI y7]),(6,[cI y8,cI y9,cI y10,cI x0,cI 0]),(4,[cI 0,cI 0,cI 0,cI 0,cI 0])]⟩) (fun v => ZP n (fun v => qH n mo15 x0 x1 v.1 v.2.1 v.2.2.1 v.2.2.2.1 v.2.2.2.2.1 v.2.2.2.2.2.1 v.2.2.2.2.2.2.1 v.2.2.2.2.2.2.2.1 v.2.2.2.2.2.2.2.2.1 v.2.2.2.2.2.2.2.2.2) r17 y1 y10 y2 y3 y4 y5 y6 y7 y8 y9 v.1 v.2.1 v.2.2.1 v.2.2.2.1 v.2.2.2.2.1 v.2.2.2.2.2.1 v.2.2.2.2.2.2 = some o15) ?_ ?_
    ·refine Tr.at ?_
     refine lA 2 ?_
     refine sL 2130303721457 3408 ⟨68,0,[sB 40 r17.2,sB 39 r17.2,sB 12 r17.2,sA 11 11 5 0,sB 38 r17.2,(31,.tup [(true,[.dead,.dead,.dead,.dead,.dead]),(false,[.dead])]),sV 37 (Vec.row r17.1),sI 35 v16.Co,sA 34 10 8 1,sV 33 ((Pt.row v16).drop 3),sA 32 10 8 3,sB 30 (!v16.Has),sB 29 (!v16.Has),sB 28 v16.Has,sA 27 10 8 2,sB 26 false,sB 25 false,sB 24 v16.Up,sA 23 10 8 0,sI 9 y1,sA 10 10 8 0,sV 22 (Pt.row v16),(21,.fad ((Pt.row v16))),sI 20 y1,sB 19 (decide (y1 < (x1.length : Int))),sI 18 y1,sI 17 (x1.length : Int),sC 16 (cF 8 x1 Pt.row),sA 8 8 5 0,sI 7 y2,sA 6 6 5 0,sI 5 0,sA 4 4 5 0,sI 0 x0],[(11,(Vec.row r17.1)),(10,(Pt.row v16)),(8,[cI y3,cI y4,cI y5,cI y6,cI y7]),(6,[cI y8,cI y9,cI y10,cI x0,cI 0]),(4,[cI 0,cI 0,cI 0,cI 0,cI 0])]⟩ ?_
     cases h5 : r17.2
     ·have H := zL h5 H
      refine uA 14 0x7fffefffff1ff1 3408 ?_
      refine sB' 0x7fffefffff1ff1 3408 ⟨68,0,[sB 54 false,(53,.tup []),(52,.tup []),(51,.tup []),(50,.tup []),(49,.tup []),(48,.tup []),(47,.tup []),sB 46 false,sB 45 false,(44,.tup []),(43,.tup []),(42,.tup []),(41,.tup []),sB 40 false,sB 39 false,sB 12 false,sA 11 11 5 0,sB 38 false,(31,.tup [(true,[.dead,.dead,.dead,.dead,.dead]),(false,[.dead])]),sV 37 (Vec.row r17.1),sI 35 v16.Co,sA 34 10 8 1,sV 33 ((Pt.row v16).drop 3),sA 32 10 8 3,sB 30 (!v16.Has),sB 29 (!v16.Has),sB 28 v16.Has,sA 27 10 8 2,sB 26 false,sB 25 false,sB 24 v16.Up,sA 23 10 8 0,sI 9 y1,sA 10 10 8 0,sV 22 (Pt.row v16),(21,.fad ((Pt.row v16))),sI 20 y1,sB 19 (decide (y1 < (x1.length : Int))),sI 18 y1,sI 17 (x1.length : Int),sC 16 (cF 8 x1 Pt.row),sA 8 8 5 0,sI 7 y2,sA 6 6 5 0,sI 5 0,sA 4 4 5 0,sI 0 x0],[(11,(Vec.row r17.1)),(10,(Pt.row v16)),(8,[cI y3,cI y4,cI y5,cI y6,cI y7]),(6,[cI y8,cI y9,cI y10,cI x0,cI 0]),(4,[cI 0,cI 0,cI 0,cI 0,cI 0])]⟩ ?_
      rw [h1]
      rw [h3]
      exact jA (false,false,false,false,false,false,false) H [54,46,45,40,39,12,11,38,31,37,35,34,33,32,30,29,28,27,26,25,24,23,9,10,22,21,20,19,18,17,16,8,7,6,5,4,0] [11,10,8,6,4]
     have H := zM h5 H
     refine lA 6 ?_
     refine sL 0x7fefffff1ff1 3408 ⟨68,0,[sB 46 (decide (r17.1.Root < x0)),sB 45 (decide (r17.1.Root < x0)),sB 44 (decide (r17.1.Root < x0)),sI 43 x0,sI 42 r17.1.Root,sA 41 11 5 0,sB 40 true,sB 39 true,sB 12 true,sA 11 11 5 0,sB 38 true,(31,.tup [(true,[.dead,.dead,.dead,.dead,.dead]),(false,[.dead])]),sV 37 (Vec.row r17.1),sI 35 v16.Co,sA 34 10 8 1,sV 33 ((Pt.row v16).drop 3),sA 32 10 8 3,sB 30 (!v16.Has),sB 29 (!v16.Has),sB 28 v16.Has,sA 27 10 8 2,sB 26 false,sB 25 false,sB 24 v16.Up,sA 23 10 8 0,sI 9 y1,sA 10 10 8 0,sV 22 (Pt.row v16),(21,.fad ((Pt.row v16))),sI 20 y1,sB 19 (decide (y1 < (x1.length : Int))),sI 18 y1,sI 17 (x1.length : Int),sC 16 (cF 8 x1 Pt.row),sA 8 8 5 0,sI 7 y2,sA 6 6 5 0,sI 5 0,sA 4 4 5 0,sI 0 x0],[(11,(Vec.row r17.1)),(10,(Pt.row v16)),(8,[cI y3,cI y4,cI y5,cI y6,cI y7]),(6,[cI y8,cI y9,cI y10,cI x0,cI 0]),(4,[cI 0,cI 0,cI 0,cI 0,cI 0])]⟩ ?_
     cases h6 : (decide (r17.1.Root < x0))
     ·have H := zL h6 H
      refine uA 8 0x7fffefffff1ff1 3408 ?_
      refine sB' 0x7fffefffff1ff1 3408 ⟨68,0,[sB 54 false,(53,.tup []),(52,.tup []),(51,.tup []),(50,.tup []),(49,.tup []),(48,.tup []),(47,.tup []),sB 46 false,sB 45 false,sB 44 false,sI 43 x0,sI 42 r17.1.Root,sA 41 11 5 0,sB 40 true,sB 39 true,sB 12 true,sA 11 11 5 0,sB 38 true,(31,.tup [(true,[.dead,.dead,.dead,.dead,.dead]),(false,[.dead])]),sV 37 (Vec.row r17.1),sI 35 v16.Co,sA 34 10 8 1,sV 33 ((Pt.row v16).drop 3),sA 32 10 8 3,sB 30 (!v16.Has),sB 29 (!v16.Has),sB 28 v16.Has,sA 27 10 8 2,sB 26 false,sB 25 false,sB 24 v16.Up,sA 23 10 8 0,sI 9 y1,sA 10 10 8 0,sV 22 (Pt.row v16),(21,.fad ((Pt.row v16))),sI 20 y1,sB 19 (decide (y1 < (x1.length : Int))),sI 18 y1,sI 17 (x1.length : Int),sC 16 (cF 8 x1 Pt.row),sA 8 8 5 0,sI 7 y2,sA 6 6 5 0,sI 5 0,sA 4 4 5 0,sI 0 x0],[(11,(Vec.row r17.1)),(10,(Pt.row v16)),(8,[cI y3,cI y4,cI y5,cI y6,cI y7]),(6,[cI y8,cI y9,cI y10,cI x0,cI 0]),(4,[cI 0,cI 0,cI 0,cI 0,cI 0])]⟩ ?_
      rw [h1]
      rw [h3]
      exact jA (false,false,false,true,true,true,true) H [54,46,45,40,39,12,11,38,31,37,35,34,33,32,30,29,28,27,26,25,24,23,9,10,22,21,20,19,18,17,16,8,7,6,5,4,0] [11,10,8,6,4]
     have H := zM h6 H
     refine lA 3 ?_
     refine sL 0x3ffefffff1ff1 3408 ⟨68,0,[sB 49 (decide (y2 < 0)),sB 48 (decide (y2 < 0)),sI 47 y2,sB 46 true,sB 45 true,sB 44 true,sI 43 x0,sI 42 r17.1.Root,sA 41 11 5 0,sB 40 true,sB 39 true,sB 12 true,sA 11 11 5 0,sB 38 true,(31,.tup [(true,[.dead,.dead,.dead,.dead,.dead]),(false,[.dead])]),sV 37 (Vec.row r17.1),sI 35 v16.Co,sA 34 10 8 1,sV 33 ((Pt.row v16).drop 3),sA 32 10 8 3,sB 30 (!v16.Has),sB 29 (!v16.Has),sB 28 v16.Has,sA 27 10 8 2,sB 26 false,sB 25 false,sB 24 v16.Up,sA 23 10 8 0,sI 9 y1,sA 10 10 8 0,sV 22 (Pt.row v16),(21,.fad ((Pt.row v16))),sI 20 y1,sB 19 (decide (y1 < (x1.length : Int))),sI 18 y1,sI 17 (x1.length : Int),sC 16 (cF 8 x1 Pt.row),sA 8 8 5 0,sI 7 y2,sA 6 6 5 0,sI 5 0,sA 4 4 5 0,sI 0 x0],[(11,(Vec.row r17.1)),(10,(Pt.row v16)),(8,[cI y3,cI y4,cI y5,cI y6,cI y7]),(6,[cI y8,cI y9,cI y10,cI x0,cI 0]),(4,[cI 0,cI 0,cI 0,cI 0,cI 0])]⟩ ?_
     cases h7 : (decide (y2 < 0))
     ·have H := zL h7 H
      refine lA 2 ?_
      obtain ⟨r25,er25,H⟩ := bs H
      refine vA [.rd,.rd] (zC5 n r17.1 (⟨y3,y4,y5,y6,y7⟩ : Vec) r25 er25) ?_
      refine uA 2 0x7fffefffff1ff1 3408 ?_
      refine sB' 0x7fffefffff1ff1 3408 ⟨68,0,[sB 54 r25,sB 53 r25,sB 52 r25,sV 51 [cI y3,cI y4,cI y5,cI y6,cI y7],sV 50 (Vec.row r17.1),sB 49 false,sB 48 false,sI 47 y2,sB 46 true,sB 45 true,sB 44 true,sI 43 x0,sI 42 r17.1.Root,sA 41 11 5 0,sB 40 true,sB 39 true,sB 12 true,sA 11 11 5 0,sB 38 true,(31,.tup [(true,[.dead,.dead,.dead,.dead,.dead]),(false,[.dead])]),sV 37 (Vec.row r17.1),sI 35 v16.Co,sA 34 10 8 1,sV 33 ((Pt.row v16).drop 3),sA 32 10 8 3,sB 30 (!v16.Has),sB 29 (!v16.Has),sB 28 v16.Has,sA 27 10 8 2,sB 26 false,sB 25 false,sB 24 v16.Up,sA 23 10 8 0,sI 9 y1,sA 10 10 8 0,sV 22 (Pt.row v16),(21,.fad ((Pt.row v16))),sI 20 y1,sB 19 (decide (y1 < (x1.length : Int))),sI 18 y1,sI 17 (x1.length : Int),sC 16 (cF 8 x1 Pt.row),sA 8 8 5 0,sI 7 y2,sA 6 6 5 0,sI 5 0,sA 4 4 5 0,sI 0 x0],[(11,(Vec.row r17.1)),(10,(Pt.row v16)),(8,[cI y3,cI y4,cI y5,cI y6,cI y7]),(6,[cI y8,cI y9,cI y10,cI x0,cI 0]),(4,[cI 0,cI 0,cI 0,cI 0,cI 0])]⟩ ?_
      rw [h1]
      rw [h3]
      exact jA (r25,true,true,true,true,true,true) H [54,46,45,40,39,12,11,38,31,37,35,34,33,32,30,29,28,27,26,25,24,23,9,10,22,21,20,19,18,17,16,8,7,6,5,4,0] [11,10,8,6,4]
     have H := zM h7 H
     refine uA 5 0x7fffefffff1ff1 3408 ?_
     refine sB' 0x7fffefffff1ff1 3408 ⟨68,0,[sB 54 true,sB 53 true,(52,.tup []),(51,.tup []),(50,.tup []),sB 49 true,sB 48 true,sI 47 y2,sB 46 true,sB 45 true,sB 44 true,sI 43 x0,sI 42 r17.1.Root,sA 41 11 5 0,sB 40 true,sB 39 true,sB 12 true,sA 11 11 5 0,sB 38 true,(31,.tup [(true,[.dead,.dead,.dead,.dead,.dead]),(false,[.dead])]),sV 37 (Vec.row r17.1),sI 35 v16.Co,sA 34 10 8 1,sV 33 ((Pt.row v16).drop 3),sA 32 10 8 3,sB 30 (!v16.Has),sB 29 (!v16.Has),sB 28 v16.Has,sA 27 10 8 2,sB 26 false,sB 25 false,sB 24 v16.Up,sA 23 10 8 0,sI 9 y1,sA 10 10 8 0,sV 22 (Pt.row v16),(21,.fad ((Pt.row v16))),sI 20 y1,sB 19 (decide (y1 < (x1.length : Int))),sI 18 y1,sI 17 (x1.length : Int),sC 16 (cF 8 x1 Pt.row),sA 8 8 5 0,sI 7 y2,sA 6 6 5 0,sI 5 0,sA 4 4 5 0,sI 0 x0],[(11,(Vec.row r17.1)),(10,(Pt.row v16)),(8,[cI y3,cI y4,cI y5,cI y6,cI y7]),(6,[cI y8,cI y9,cI y10,cI x0,cI 0]),(4,[cI 0,cI 0,cI 0,cI 0,cI 0])]⟩ ?_
     rw [h1]
     rw [h3]
     exact jA (true,true,true,true,true,true,true) H [54,46,45,40,39,12,11,38,31,37,35,34,33,32,30,29,28,27,26,25,24,23,9,10,22,21,20,19,18,17,16,8,7,6,5,4,0] [11,10,8,6,4]
    rintro ⟨y18,y19,y20,y21,y22,y23,y24⟩ H
    have H : (ZP n (fun v => qH n mo15 x0 x1 v.1 v.2.1 v.2.2.1 v.2.2.2.1 v.2.2.2.2.1 v.2.2.2.2.2.1 v.2.2.2.2.2.2.1 v.2.2.2.2.2.2.2.1 v.2.2.2.2.2.2.2.2.1 v.2.2.2.2.2.2.2.2.2) r17 y1 y10 y2 y3 y4 y5 y6 y7 y8 y9 y18 y19 y20 y21 y22 y23 y24) = some o15 := H
    unfold ZP at H
    cases h4 : y18
    ·have H := zL h4 H
     refine nB_ ?_
     refine tK ?_
     refine eA 2 0x2004061efffff1ff1 3408 ?_
     exact jB mo15 ((IntKind.wrap .i64 (y1 + 1)),y2,y3,y4,y5,y6,y7,y8,y9,y10) H [18,17,16,8,7,6,5,4,0] [8,6,4]
    have H := zM h4 H
    refine tB_ ?_
    refine gA 4 0x1c061efffff1ff1 3408 ?_
    refine eA 9 0x1ffc061efffff1ff1 3408 ?_
    refine eA 2 0x3ffc061efffff1ff1 3408 ?_
    exact jB mo15 ((IntKind.wrap .i64 (y1 + 1)),y1,r17.1.Root,r17.1.Co,r17.1.Hops,r17.1.Bridge,r17.1.Port,r17.1.Root,r17.1.Co,r17.1.Hops) H [18,17,16,8,7,6,5,4,0] [8,6,4]
   refine tA h3 ?_
   refine Tr.exit ?_
   refine aJ ?_
   refine eA 2 0x2000000007fff07f1 1360 ?_
   exact jB mo15 ((IntKind.wrap .i64 (y1 + 1)),y2,y3,y4,y5,y6,y7,y8,y9,y10) H [18,17,16,8,7,6,5,4,0] [8,6,4]
  have H := zM h2 H
  refine uA 4 2147420145 1360 ?_
  refine tB_ ?_
  refine Tr.exit ?_
  refine aJ ?_
  refine eA 2 0x2000000007fff07f1 1360 ?_
  exact jB mo15 ((IntKind.wrap .i64 (y1 + 1)),y2,y3,y4,y5,y6,y7,y8,y9,y10) H [18,17,16,8,7,6,5,4,0] [8,6,4]
 rintro ⟨y11,y12,y13,y14⟩ H
 have H : (Ye n x0 y11 y12 y13 y14) = some r := H
 unfold Ye at H
 refine gA 4 48 16 ?_
 exact te (fJ [(true,[cI y12,cI y13,cI y14,cI x0,cI 0]),(false,[cI y11])] H)
def Yp (n : Nat) (x0 : Int) (x1 : (List Pt)) (x2 : Int) : Option (Vec) :=
  ((Qo n x0 x1).bind fun r1 => (some (⟨r1.1.Root,r1.1.Co,r1.1.Hops,r1.1.Bridge,x2⟩ : Vec)))
theorem zGy (n : Nat) (x0 : Int) (x1 : (List Pt)) (x2 : Int) (r : Vec) (H : Yp n x0 x1 x2 = some r) : zK Try.prog 113 [.val false [.lit (.int .i64 x0)],.val false [.sl false 8 (CV.frzEs (x1.map Pt.row))],.val false [.lit (.int .i64 x2)]] [.val true (Vec.row r)] [] := by
 refine cW Try.func113 (fun g d => sl [g 0,g 1,g 2,g 3] .ret) [.cell 6 46] fun cx => ?_
 unfold Yp at H
 refine gA 1 71 64 ?_
 refine rA 2 ?_
 obtain ⟨r1,er1,H⟩ := bs H
 refine vA [.rd,.rd] (zC3 n x0 x1 r1 er1) ?_
 refine LAt.movT tOk (ty := 157) (t := 12) (d := 9) (g := none) [(true,(Vec.row r1.1)),(false,[cI r1.2])] _ kr (.inl rfl) kr kr kr kr rfl ?_
 refine uA 5 196 192 ?_
 refine gA 3 192 192 ?_
 refine gA 2 64 64 ?_
 exact te (fJ [(true,[cI r1.1.Root,cI r1.1.Co,cI r1.1.Hops,cI r1.1.Bridge,cI x2])] H)
def Yo (n : Nat) (x0 : Int) (x1 : (List Pt)) (x2 : Int) : Option (Int) :=
  ((qN n x2 0 (IntKind.wrap .i64 ((x1.length : Int) - 1))).bind fun r1 => (bif (!r1) then (some 4) else ((idx x1 x2).bind fun v2 => (bif (!v2.Up) then (some 4) else ((Qo n x0 x1).bind fun r3 => (bif (r3.2 == x2) then (some 1) else ((idx x1 x2).bind fun v4 => (bif (!v4.Has) then (some 2) else ((Yp n x0 x1 x2).bind fun r5 => ((idx x1 x2).bind fun v6 => ((YM n r5 v6.Hd).bind fun r7 => (bif r7 then (some 2) else (some 3)))))))))))))
def zJf : Tab := ⟨19,[0,0,3,4,8,16,32,64,64,64,960,64,64,6208,8256,16448,33856,65600,196608],[0,0,3,4,8,16,32,64,64,64,960,64,64,6208,8256,16448,33856,65600,131072],[0,0,3,7,15,31,63,127,127,127,1023,127,127,6271,14463,30847,65535,131071,262143]⟩
theorem YC : qF (rg Try.f59 6) zJf = true := kr
theorem zGx (n : Nat) (x0 : Int) (x1 : (List Pt)) (x2 : Int) (r : Int) (H : Yo n x0 x1 x2 = some r) : zK Try.prog 59 [.val false [.lit (.int .i64 x0)],.val false [.sl false 8 (CV.frzEs (x1.map Pt.row))],.val false [.lit (.int .i64 x2)]] [.val false [.lit (.int .i64 r)]] [] := by
 refine cW Try.func59 (fun g d => sl [g 0,sl [g 1] (cn 22 (sl [g 2] .ret) .skip),g 3,.block 0 (sl [g 4] (cn 29 (sl [g 5] .ret) (sl [d 6] (cn 33 (sl [g 7] .ret) .skip)))),g 8] .ret) [.tmp 6] fun cx => ?_
 unfold Yo at H
 refine gA 1 7 0 ?_
 refine tS ?_
 refine rA 2 ?_
 refine kF x1 Pt.row ?_
 refine lA 1 ?_
 obtain ⟨r1,er1,H⟩ := bs H
 refine vA [.rd,.rd,.rd] (qU n x2 0 (IntKind.wrap .i64 ((x1.length : Int) - 1)) r1 er1) ?_
 refine lA 2 ?_
 refine sL 32775 0 ⟨52,0,[sB 15 (!r1),sI 0 x0,sC 1 (cF 8 x1 Pt.row),sI 2 x2],[]⟩ ?_
 cases h1 : (!r1)
 ·have H := zL h1 H
  refine lA 2 ?_
  obtain ⟨v2,ev2,H⟩ := bs H
  refine iA Pt.row ev2 ?_
  refine uA 4 4194311 0 ?_
  obtain ⟨h2,H⟩ | ⟨h2,H⟩ := bC H
  ·refine nA h2 ?_
   refine tK ?_
   refine rA 2 ?_
   obtain ⟨r3,er3,H⟩ := bs H
   refine vA [.rd,.rd] (zC3 n x0 x1 r3 er3) ?_
   refine LAt.movT tOk (ty := 157) (t := 26) (d := 23) (g := none) [(true,(Vec.row r3.1)),(false,[cI r3.2])] _ kr (.inl rfl) kr kr kr kr rfl ?_
   refine uA 5 263 0 ?_
   refine tS ?_
   refine tB ?_
   refine gA 4 536870919 0 ?_
   obtain ⟨h3,H⟩ | ⟨h3,H⟩ := bC H
   ·refine nA h3 ?_
    obtain ⟨v4,ev4,H⟩ := bs H
    refine sT ⟨52,0,[sB 29 (r3.2 == x2),sI 0 x0,sC 1 (cF 8 x1 Pt.row),sI 2 x2],[]⟩ ?_
    cases h4 : (!v4.Has)
    ·have H := zL h4 H
     obtain ⟨r5,er5,H⟩ := bs H
     obtain ⟨v6,ev6,H⟩ := bs H
     obtain ⟨r7,er7,H⟩ := bs H
     refine Tr.draws mixed 19 kr ⟨52,0,[sB 33 r7],[]⟩ (fun cx => ?_) ?_
     ·refine mA YC [(0,[]),(1,[])] 17 [] fun cx => ?_
      refine iN YC 2 Pt.row ev4 fun cx => ?_
      refine mA YC [(3,[]),(4,[]),(5,[]),(6,[])] 12 [] fun cx => ?_
      refine sA_ 1099511627783 0 ⟨52,0,[sB 40 (!v4.Has),sI 0 x0,sC 1 (cF 8 x1 Pt.row),sI 2 x2],[]⟩ ?_
      rw [h4]
      refine mA YC [(7,[]),(8,[]),(9,[]),(11,[]),(12,[])] 7 [] fun cx => ?_
      refine iN YC 13 Pt.row ev6 fun cx => ?_
      refine mA YC [(14,[]),(15,[])] 4 [] fun cx => ?_
      refine mC YC 10 ?_
      refine vA [.rd,.rd,.rd] (zGy n x0 x1 x2 r5 er5) ?_
      refine fA ?_
      refine mC YC 16 ?_
      refine vA [.rd,.rd] (zC5 n r5 v6.Hd r7 er7) ?_
      refine fA ?_
      refine mA YC [(17,[]),(18,[])] 0 [] fun cx => ?_
      exact mE YC [33] []
     cases h5 : r7
     ·have H := zL h5 H
      refine nB_ ?_
      refine tK ?_
      refine gA 1 64 0 ?_
      exact te (fJ [(false,[cI 3])] H)
     have H := zM h5 H
     refine tB_ ?_
     refine gA 1 64 0 ?_
     exact te (fJ [(false,[cI 2])] H)
    have H := zM h4 H
    refine Tr.draws mixed 19 kr ⟨52,0,[sB 33 true],[]⟩ (fun cx => ?_) ?_
    ·refine mA YC [(0,[]),(1,[])] 17 [] fun cx => ?_
     refine iN YC 2 Pt.row ev4 fun cx => ?_
     refine mA YC [(3,[]),(4,[]),(5,[]),(6,[])] 12 [] fun cx => ?_
     refine sA_ 1099511627783 0 ⟨52,0,[sB 40 (!v4.Has),sI 0 x0,sC 1 (cF 8 x1 Pt.row),sI 2 x2],[]⟩ ?_
     rw [h4]
     refine mA YC [(7,[]),(8,[]),(9,[]),(10,[]),(11,[]),(12,[]),(13,[]),(14,[]),(15,[]),(16,[]),(17,[]),(18,[])] 0 [] fun cx => ?_
     exact mE YC [33] []
    refine tB_ ?_
    refine gA 1 64 0 ?_
    exact te (fJ [(false,[cI 2])] H)
   refine tA h3 ?_
   refine gA 1 64 0 ?_
   exact te (fJ [(false,[cI 1])] H)
  refine tA h2 ?_
  refine gA 1 64 0 ?_
  exact te (fJ [(false,[cI 4])] H)
 have H := zM h1 H
 refine uA 7 4194311 0 ?_
 refine tB_ ?_
 refine gA 1 64 0 ?_
 exact te (fJ [(false,[cI 4])] H)
def JY (n : Nat) (y3 : Int) : Option (Int) :=
  (some y3)
def ZH (n : Nat) : Nat → Int → (List Pt) → Int → Int → Option ((Int) ⊕ (Int))
  | 0,_,_,_,_ => none
  | mo4 + 1,x0,x1,y1,y2 => (bif (decide (y1 < (x1.length : Int))) then (bif (decide (y1 < 6)) then ((Yo n x0 x1 y1).bind fun r5 => (bif (r5 == 1) then (bif (decide ((0 : Int) ≤ y1)) then (ZH n mo4 x0 x1 (IntKind.wrap .i64 (y1 + 1)) (IntKind.wrap .i64 (BitVec.ofInt (IntKind.bits .i64) y2 ||| BitVec.ofInt (IntKind.bits .i64) (IntKind.wrap .i64 (1 * 2 ^ min ((y1 : Int)).toNat (IntKind.bits .i64)))).toNat)) else none) else (bif (r5 == 2) then (bif (decide ((0 : Int) ≤ y1)) then (ZH n mo4 x0 x1 (IntKind.wrap .i64 (y1 + 1)) (IntKind.wrap .i64 (BitVec.ofInt (IntKind.bits .i64) y2 ||| BitVec.ofInt (IntKind.bits .i64) (IntKind.wrap .i64 (1 * 2 ^ min ((y1 : Int)).toNat (IntKind.bits .i64)))).toNat)) else none) else (ZH n mo4 x0 x1 (IntKind.wrap .i64 (y1 + 1)) y2)))) else (some (Sum.inl y2))) else (some (Sum.inl y2)))
def Zf (n : Nat) (x0 : Int) (x1 : (List Pt)) : Option (Int) :=
  ((ZH n n x0 x1 0 0).bind fun o => match o with | .inl y3 => (JY n y3) | .inr r => some r)
theorem J2 (n : Nat) (x0 : Int) (x1 : (List Pt)) (r : Int) (H : Zf n x0 x1 = some r) : zK Try.prog 22 [.val false [.lit (.int .i64 x0)],.val false [.sl false 8 (CV.frzEs (x1.map Pt.row))]] [.val false [.lit (.int .i64 r)]] [] := by
 refine cW Try.func22 (fun g d => sl [g 0,g 1,sl [g 2] (.block 0 (.loop (sl [sl [g 3] (cn 15 .skip (.exit 0)),.block 1 (sl [g 5,g 6] (cn 27 (g 7) .skip))] (g 4)))),g 8] .ret) [.tmp 4] fun cx => ?_
 unfold Zf at H
 refine gA 1 3 0 ?_
 refine gA 1 35 0 ?_
 refine tS ?_
 refine gA 1 99 0 ?_
 obtain ⟨o4,eo4,Ho4⟩ := bs H
 clear H
 refine Tr.mid (ι := Int) (fun v => ⟨33,0,[sI 5 v],[]⟩) (fun v => JY n v = some r) ?_ ?_
 ·refine tB ?_
  refine Tr.loop (ι := Nat × (Int × Int)) (fun v => ⟨33,0,[sI 6 v.2.1,sI 5 v.2.2,sI 0 x0,sC 1 (cF 8 x1 Pt.row)],[]⟩) (fun v => ZH n v.1 x0 x1 v.2.1 v.2.2 = some o4) (fun v => v.1) (n,(0,0)) eo4 (St.sub_of [6,5,0,1] [] kr) ?_
  rintro ⟨mo4,y1,y2⟩ H
  have H : ZH n mo4 x0 x1 y1 y2 = some o4 := H
  obtain _ | mo4 := mo4
  ·exact nN H
  rw [ZH] at H
  refine tS ?_
  refine rA 2 ?_
  refine kF x1 Pt.row ?_
  refine lA 2 ?_
  refine sL 4195 0 ⟨33,0,[sB 12 (decide (y1 < (x1.length : Int))),sI 6 y1,sI 5 y2,sI 0 x0,sC 1 (cF 8 x1 Pt.row)],[]⟩ ?_
  cases h1 : (decide (y1 < (x1.length : Int)))
  ·have H := zL h1 H
   refine uA 3 32867 0 ?_
   refine nB_ ?_
   refine Tr.exit ?_
   refine aJ ?_
   obtain rfl := si H
   have H := Ho4
   dsimp only at H
   exact jA y2 H [5] []
  have H := zM h1 H
  refine uA 3 32867 0 ?_
  obtain ⟨h2,H⟩ | ⟨h2,H⟩ := bC H
  ·refine nA h2 ?_
   refine Tr.exit ?_
   refine aJ ?_
   obtain rfl := si H
   have H := Ho4
   dsimp only at H
   exact jA y2 H [5] []
  refine tA h2 ?_
  refine tK ?_
  refine tS ?_
  refine tB ?_
  refine rA 3 ?_
  obtain ⟨r5,er5,H⟩ := bs H
  refine vA [.rd,.rd,.rd] (zGx n x0 x1 y1 r5 er5) ?_
  refine uA 1 227 0 ?_
  refine rA 3 ?_
  refine sL 16777443 0 ⟨33,0,[sB 24 (r5 == 1),sI 7 r5,sI 6 y1,sI 5 y2,sI 0 x0,sC 1 (cF 8 x1 Pt.row)],[]⟩ ?_
  cases h3 : (r5 == 1)
  ·have H := zL h3 H
   refine uA 3 134217827 0 ?_
   obtain ⟨h4,H⟩ | ⟨h4,H⟩ := bC H
   ·refine nA h4 ?_
    refine tK ?_
    refine eA 3 99 0 ?_
    exact jB mo4 ((IntKind.wrap .i64 (y1 + 1)),y2) H [6,5,0,1] []
   refine tA h4 ?_
   refine Tr.at ?_
   refine lA 2 ?_
   obtain ⟨hg6,H⟩ := gs H
   refine LAt.binC tOk (op := .shl) (t := 3) (ty := 3) (ty' := 3) (x := (.const (.int .i64 1))) (y := (.tmp 29)) (d := 30) (g := none) (.int .i64 1) (.int .i64 y1) (.int .i64 (IntKind.wrap .i64 (1 * 2 ^ min ((y1 : Int)).toNat (IntKind.bits .i64)))) _ kr kr kr kr kr (φ := (0 : Int) ≤ y1) kr (of_decide_eq_true hg6) rfl ?_
   refine uA 2 99 0 ?_
   refine eA 3 99 0 ?_
   exact jB mo4 ((IntKind.wrap .i64 (y1 + 1)),(IntKind.wrap .i64 (BitVec.ofInt (IntKind.bits .i64) y2 ||| BitVec.ofInt (IntKind.bits .i64) (IntKind.wrap .i64 (1 * 2 ^ min ((y1 : Int)).toNat (IntKind.bits .i64)))).toNat)) H [6,5,0,1] []
  have H := zM h3 H
  refine uA 3 134217827 0 ?_
  refine tB_ ?_
  refine Tr.at ?_
  refine lA 2 ?_
  obtain ⟨hg7,H⟩ := gs H
  refine LAt.binC tOk (op := .shl) (t := 3) (ty := 3) (ty' := 3) (x := (.const (.int .i64 1))) (y := (.tmp 29)) (d := 30) (g := none) (.int .i64 1) (.int .i64 y1) (.int .i64 (IntKind.wrap .i64 (1 * 2 ^ min ((y1 : Int)).toNat (IntKind.bits .i64)))) _ kr kr kr kr kr (φ := (0 : Int) ≤ y1) kr (of_decide_eq_true hg7) rfl ?_
  refine uA 2 99 0 ?_
  refine eA 3 99 0 ?_
  exact jB mo4 ((IntKind.wrap .i64 (y1 + 1)),(IntKind.wrap .i64 (BitVec.ofInt (IntKind.bits .i64) y2 ||| BitVec.ofInt (IntKind.bits .i64) (IntKind.wrap .i64 (1 * 2 ^ min ((y1 : Int)).toNat (IntKind.bits .i64)))).toNat)) H [6,5,0,1] []
 rintro y3 H
 have H : (JY n y3) = some r := H
 unfold JY at H
 refine gA 2 16 0 ?_
 exact te (fJ [(false,[cI y3])] H)
def YO (n : Nat) (x0 : Int) (x1 : Int) : Option (Bool) :=
  ((qN n x1 0 62).bind fun r1 => (bif r1 then (bif (decide ((0 : Int) ≤ x1)) then (some ((IntKind.wrap .i64 (BitVec.ofInt (IntKind.bits .i64) (Int.fdiv x0 (2 ^ min ((x1 : Int)).toNat (IntKind.bits .i64))) &&& BitVec.ofInt (IntKind.bits .i64) 1).toNat) == 1)) else none) else (some false)))
theorem zGX (n : Nat) (x0 : Int) (x1 : Int) (r : Bool) (H : YO n x0 x1 = some r) : zK Try.prog 109 [.val false [.lit (.int .i64 x0)],.val false [.lit (.int .i64 x1)]] [.val false [.lit (.bool r)]] [] := by
 refine cW Try.func109 (fun g d => sl [g 0,g 1] .ret) [.tmp 4] fun cx => ?_
 unfold YO at H
 refine gA 1 3 0 ?_
 refine rA 1 ?_
 obtain ⟨r1,er1,H⟩ := bs H
 refine vA [.rd,.rd,.rd] (qU n x1 0 62 r1 er1) ?_
 refine lA 1 ?_
 refine sL 131 0 ⟨14,0,[sB 7 r1,sI 0 x0,sI 1 x1],[]⟩ ?_
 cases h1 : r1
 ·have H := zL h1 H
  refine uA 7 16 0 ?_
  exact te (fF H)
 have H := zM h1 H
 refine lA 2 ?_
 obtain ⟨hg2,H⟩ := gs H
 refine LAt.binC tOk (op := .shr) (t := 3) (ty := 3) (ty' := 3) (x := (.tmp 8)) (y := (.tmp 9)) (d := 10) (g := (some (2,true))) (.int .i64 x0) (.int .i64 x1) (.int .i64 (Int.fdiv x0 (2 ^ min ((x1 : Int)).toNat (IntKind.bits .i64)))) _ kr kr kr kr kr (φ := (0 : Int) ≤ x1) kr (of_decide_eq_true hg2) rfl ?_
 refine uA 4 16 0 ?_
 exact te (fJ [(false,[cB ((IntKind.wrap .i64 (BitVec.ofInt (IntKind.bits .i64) (Int.fdiv x0 (2 ^ min ((x1 : Int)).toNat (IntKind.bits .i64))) &&& BitVec.ofInt (IntKind.bits .i64) 1).toNat) == 1)])] H)
def QN (n : Nat) (y3 : (List zB)) : Option ((List zB)) :=
  (some y3)
def qR (n : Nat) : Nat → (List zB) → Int → Int → (List zB) → Option (((List zB)) ⊕ ((List zB)))
  | 0,_,_,_,_ => none
  | mo4 + 1,x0,x1,y1,y2 => (bif (decide (y1 < (x0.length : Int))) then ((idx x0 y1).bind fun v5 => (bif v5.Sc then (bif (decide (y2.length + [v5].length ≤ 268435456)) then (qR n mo4 x0 x1 (IntKind.wrap .i64 (y1 + 1)) (y2 ++ [v5])) else none) else (bif (v5.Port != x1) then (bif (decide (y2.length + [v5].length ≤ 268435456)) then (qR n mo4 x0 x1 (IntKind.wrap .i64 (y1 + 1)) (y2 ++ [v5])) else none) else (qR n mo4 x0 x1 (IntKind.wrap .i64 (y1 + 1)) y2)))) else (some (Sum.inl y2)))
def Qu (n : Nat) (x0 : (List zB)) (x1 : Int) : Option ((List zB)) :=
  ((qR n n x0 x1 0 ([] : List zB)).bind fun o => match o with | .inl y3 => (QN n y3) | .inr r => some r)
theorem zFJ (n : Nat) (x0 : (List zB)) (x1 : Int) (r : (List zB)) (H : Qu n x0 x1 = some r) : zK Try.prog 110 [.val false [.sl false 5 (CV.frzEs (x0.map zB.row))],.val false [.lit (.int .i64 x1)]] [.val false [.sl true 5 (r.map zB.row)]] [] := by
 refine cW Try.func110 (fun g d => sl [g 0,g 1,sl [g 2] (.block 0 (.loop (sl [g 3,cn 11 .skip (.exit 0),.block 1 (sl [g 4,g 5] (cn 21 (g 6) .skip))] (g 7)))),g 8] .ret) [.tmp 4] fun cx => ?_
 unfold Qu at H
 refine gA 1 3 0 ?_
 refine gA 1 35 0 ?_
 refine tS ?_
 refine rA 1 ?_
 refine kF x0 zB.row ?_
 refine uA 1 1826 0 ?_
 obtain ⟨o4,eo4,Ho4⟩ := bs H
 clear H
 refine Tr.mid (ι := (List zB)) (fun v => ⟨28,0,[sC 5 (cL 5 v zB.row)],[]⟩) (fun v => QN n v = some r) ?_ ?_
 ·refine tB ?_
  refine Tr.loop (ι := Nat × (Int × (List zB))) (fun v => ⟨28,0,[sI 10 v.2.1,sI 9 (x0.length : Int),sC 8 (cF 5 x0 zB.row),sC 5 (cL 5 v.2.2 zB.row),sI 1 x1],[]⟩) (fun v => qR n v.1 x0 x1 v.2.1 v.2.2 = some o4) (fun v => v.1) (n,(0,([] : List zB))) eo4 (St.sub_of [10,9,8,5,1] [] kr) ?_
  rintro ⟨mo4,y1,y2⟩ H
  have H : qR n mo4 x0 x1 y1 y2 = some o4 := H
  obtain _ | mo4 := mo4
  ·exact nN H
  rw [qR] at H
  refine gA 1 3874 0 ?_
  refine tS ?_
  obtain ⟨h1,H⟩ | ⟨h1,H⟩ := bC H
  ·refine nA h1 ?_
   refine Tr.exit ?_
   refine aJ ?_
   obtain rfl := si H
   have H := Ho4
   dsimp only at H
   exact jA y2 H [5] []
  refine tA h1 ?_
  refine tK ?_
  refine tS ?_
  refine tB ?_
  refine tR ?_
  obtain ⟨v5,ev5,H⟩ := bs H
  refine iA zB.row ev5 ?_
  refine uA 3 1954 128 ?_
  refine tS ?_
  refine Tr.at ?_
  refine lA 3 ?_
  refine sL 67490 128 ⟨28,0,[sB 16 v5.Sc,sA 7 7 5 0,sI 10 y1,sI 9 (x0.length : Int),sC 8 (cF 5 x0 zB.row),sC 5 (cL 5 y2 zB.row),sI 1 x1],[(7,(zB.row v5))]⟩ ?_
  cases h2 : v5.Sc
  ·have H := zL h2 H
   refine uA 5 2099106 128 ?_
   obtain ⟨h3,H⟩ | ⟨h3,H⟩ := bC H
   ·refine nA h3 ?_
    refine tK ?_
    refine eA 2 1826 0 ?_
    exact jB mo4 ((IntKind.wrap .i64 (y1 + 1)),y2) H [10,9,8,5,1] []
   refine tA h3 ?_
   refine Tr.at ?_
   refine lA 3 ?_
   obtain ⟨hg6,H⟩ := gs H
   refine LAt.appMU tOk (t := 36) (ty := 36) (e := 60) (x := (.tmp 22)) (y := (.tmp 24)) (d := 25) (g := none) (tI 60) zB.row y2 [v5] kr kr kr kr kr kr kr kr kr kr hg6 ?_
   refine LAt.moveU (T := lk tab) (ty := 36) (x := (.tmp 25)) (d := 5) (g := none) false [cL 5 (y2 ++ [v5]) zB.row] kr kr kr kr kr ?_
   refine dA 1826 0 ?_
   refine eA 2 1826 0 ?_
   exact jB mo4 ((IntKind.wrap .i64 (y1 + 1)),(y2 ++ [v5])) H [10,9,8,5,1] []
  have H := zM h2 H
  refine uA 5 2099106 128 ?_
  refine tB_ ?_
  refine Tr.at ?_
  refine lA 3 ?_
  obtain ⟨hg7,H⟩ := gs H
  refine LAt.appMU tOk (t := 36) (ty := 36) (e := 60) (x := (.tmp 22)) (y := (.tmp 24)) (d := 25) (g := none) (tI 60) zB.row y2 [v5] kr kr kr kr kr kr kr kr kr kr hg7 ?_
  refine LAt.moveU (T := lk tab) (ty := 36) (x := (.tmp 25)) (d := 5) (g := none) false [cL 5 (y2 ++ [v5]) zB.row] kr kr kr kr kr ?_
  refine dA 1826 0 ?_
  refine eA 2 1826 0 ?_
  exact jB mo4 ((IntKind.wrap .i64 (y1 + 1)),(y2 ++ [v5])) H [10,9,8,5,1] []
 rintro y3 H
 have H : (QN n y3) = some r := H
 unfold QN at H
 refine gA 2 48 0 ?_
 exact te (fJ [(false,[cL 5 y3 zB.row])] H)
def Qk (n : Nat) (r1 : Int) (x0 : zA) (y5 : (List zB)) : Option (zA) :=
  (some (⟨x0.Id,x0.Name,x0.Ps,y5,x0.V,x0.Tk,x0.Pa,x0.Wo,x0.Dr,r1⟩ : zA))
def qb (n : Nat) : Nat → Int → zA → Int → (List zB) → Option (((List zB)) ⊕ (zA))
  | 0,_,_,_,_ => none
  | mo6 + 1,r2,x0,y3,y4 => (bif (decide (y3 < (x0.Ps.length : Int))) then ((YO n r2 y3).bind fun r7 => (bif (!r7) then ((Qu n y4 y3).bind fun r8 => (qb n mo6 r2 x0 (IntKind.wrap .i64 (y3 + 1)) r8)) else (qb n mo6 r2 x0 (IntKind.wrap .i64 (y3 + 1)) y4))) else (some (Sum.inl y4)))
def qs (n : Nat) (x0 : zA) : Option (zA) :=
  ((JA n x0.Ve).bind fun r1 => ((Zf n x0.Id x0.Ps).bind fun r2 => ((qb n n r2 x0 0 x0.F).bind fun o => match o with | .inl y5 => (Qk n r1 x0 y5) | .inr r => some r)))
noncomputable abbrev G55 (k : Nat) := Rg Try.f55 k
noncomputable abbrev D55 (k : Nat) := Rd Try.f55 k
theorem Jj (n : Nat) (x0 : zA) (r : zA) (H : qs n x0 = some r) : zK Try.prog 55 [.ptr (zA.row x0)] [] [(0,(zA.row r))] := by
 refine zK.of_body tOk Try.func55 rfl (c := (.seq (G55 0) (.seq (D55 1) (.seq (G55 2) (.block 0 (.loop (.seq (G55 3) (.seq (.cond (.tmp 27) .skip (.exit 0)) (.seq (.block 1 (.seq (G55 4) (.seq (G55 5) (.cond (.tmp 32) (G55 6) .skip)))) (G55 7)))))))))) kr (Nat.le_of_ble_eq_true kr) 1 (rs := []) rfl [] .nil [] [] [(0,(zA.row r))] fun cx => ?_
 show Tr _ _ _ ⟨43,1,[sA 0 0 11 0],[(0,(zA.row x0))]⟩ _
 unfold qs at H
 refine rA 5 ?_
 obtain ⟨r1,er1,H⟩ := bs H
 refine vA [.rd] (zFr n x0.Ve r1 er1) ?_
 refine uA 3 1 1 ?_
 obtain ⟨r2,er2,H⟩ := bs H
 refine Tr.draws mixed 10 kr ⟨43,1,[sI 2 r2,sA 0 0 11 0],[(0,[cI x0.Id,cS x0.Name,cL 8 x0.Ps Pt.row,cL 5 x0.F zB.row,cL 3 x0.V.Rows zC.row,cL 1 x0.V.Pv intRow,cI x0.Tk,cI x0.Pa,cI x0.Wo,cI x0.Dr,cI r1])]⟩ (fun cx => ?_) ?_
 ·refine aA [(0,[]),(1,[]),(2,[]),(3,[8]),(4,[]),(5,[]),(6,[]),(7,[8])] 2 [⟨[8],35,18,19⟩,⟨[8],3,14,15⟩] fun cx => ?_
  refine bA 8 ?_
  refine vB [.rd,.rd] [.box 0] (J2 n x0.Id x0.Ps r2 er2) (.inr (zZ (zI zP zk) zq)) ?_
  refine fA ?_
  refine aA [(9,[])] 0 [⟨[8],35,18,19⟩,⟨[8],3,14,15⟩] fun cx => ?_
  exact eE [2,0] [0]
 refine rA 4 ?_
 refine kO x0.Ps Pt.row ?_
 refine uA 1 100663301 1 ?_
 obtain ⟨o6,eo6,Ho6⟩ := bs H
 clear H
 refine Tr.mid (ι := (List zB)) (fun v => ⟨43,1,[sA 0 0 11 0],[(0,[cI x0.Id,cS x0.Name,cL 8 x0.Ps Pt.row,cL 5 v zB.row,cL 3 x0.V.Rows zC.row,cL 1 x0.V.Pv intRow,cI x0.Tk,cI x0.Pa,cI x0.Wo,cI x0.Dr,cI r1])]⟩) (fun v => Qk n r1 x0 v = some r) ?_ ?_
 ·refine tB ?_
  refine Tr.loop (ι := Nat × (Int × (List zB))) (fun v => ⟨43,1,[sI 26 v.2.1,sI 25 (x0.Ps.length : Int),sI 2 r2,sA 0 0 11 0],[(0,[cI x0.Id,cS x0.Name,cL 8 x0.Ps Pt.row,cL 5 v.2.2 zB.row,cL 3 x0.V.Rows zC.row,cL 1 x0.V.Pv intRow,cI x0.Tk,cI x0.Pa,cI x0.Wo,cI x0.Dr,cI r1])]⟩) (fun v => qb n v.1 r2 x0 v.2.1 v.2.2 = some o6) (fun v => v.1) (n,(0,x0.F)) eo6 (St.sub_of [26,25,2,0] [0] kr) ?_
  rintro ⟨mo6,y3,y4⟩ H
  have H : qb n mo6 r2 x0 y3 y4 = some o6 := H
  obtain _ | mo6 := mo6
  ·exact nN H
  rw [qb] at H
  refine gA 1 234881029 1 ?_
  refine tS ?_
  obtain ⟨h1,H⟩ | ⟨h1,H⟩ := bC H
  ·refine nA h1 ?_
   refine Tr.exit ?_
   refine aJ ?_
   obtain rfl := si H
   have H := Ho6
   dsimp only at H
   exact jA y4 H [0] [0]
  refine tA h1 ?_
  refine tK ?_
  refine tS ?_
  refine tB ?_
  refine gA 2 100663309 1 ?_
  refine rA 2 ?_
  obtain ⟨r7,er7,H⟩ := bs H
  refine vA [.rd,.rd] (zGX n r2 y3 r7 er7) ?_
  refine uA 1 4395630605 1 ?_
  obtain ⟨h2,H⟩ | ⟨h2,H⟩ := bC H
  ·refine nA h2 ?_
   refine tK ?_
   refine eA 2 100663301 1 ?_
   exact jB mo6 ((IntKind.wrap .i64 (y3 + 1)),y4) H [26,25,2,0] [0]
  refine tA h2 ?_
  refine Tr.at ?_
  refine lA 6 ?_
  obtain ⟨r8,er8,H⟩ := bs H
  refine vB [.rd,.rd] [.box 0] (zFJ n y4 y3 r8 er8) (.inr (zZ (zI (Qd (Zj zB.row_mine _)) zk) zq)) ?_
  refine uA 3 100663301 1 ?_
  refine eA 2 100663301 1 ?_
  exact jB mo6 ((IntKind.wrap .i64 (y3 + 1)),r8) H [26,25,2,0] [0]
 rintro y5 H
 have H : (Qk n r1 x0 y5) = some r := H
 unfold Qk at H
 obtain rfl := si H
 exact Fin.ofY _ [] [] _ [] _ [(0,[cI x0.Id,cS x0.Name,cL 8 x0.Ps Pt.row,cL 5 y5 zB.row,cL 3 x0.V.Rows zC.row,cL 1 x0.V.Pv intRow,cI x0.Tk,cI x0.Pa,cI x0.Wo,cI x0.Dr,cI r1])] kr rfl rfl rfl kr kr kr kr rfl rfl rfl
def Zi (n : Nat) (r1 : zA) (x1 : Int) (x2 : Vec) (y2 : Bool) : Option (zA) :=
  (bif y2 then ((idx r1.Ps x1).bind fun v3 => ((idx (r1.Ps.set (x1.toNat) (⟨v3.Up,v3.Co,true,v3.Hd⟩ : Pt)) x1).bind fun v4 => ((qs n (⟨r1.Id,r1.Name,((r1.Ps.set (x1.toNat) (⟨v3.Up,v3.Co,true,v3.Hd⟩ : Pt)).set (x1.toNat) (⟨v4.Up,v4.Co,v4.Has,x2⟩ : Pt)),r1.F,r1.V,r1.Tk,r1.Pa,r1.Wo,r1.Dr,r1.Ve⟩ : zA)).bind fun r5 => (some r5)))) else (some r1))
def Zt (n : Nat) (x0 : zA) (x1 : Int) (x2 : Vec) : Option (zA) :=
  ((ZY n x0).bind fun r1 => ((Q4 n x0 x1).bind fun r6 => (bif r6 then ((idx x0.Ps x1).bind fun v7 => (bif v7.Up then ((Z6 n x2).bind fun r8 => (Zi n r1 x1 x2 r8)) else (Zi n r1 x1 x2 false))) else (Zi n r1 x1 x2 false))))
def zJa : Tab := ⟨13,[0,1,0,0,8,0,0,23,151,279,1023,2047,3071],[0,1,0,0,8,0,0,6,128,256,48,1024,2112],[0,1,0,0,8,0,0,31,159,415,1023,2047,4095]⟩
theorem zBd : qF (rg Try.f16 3) zJa = true := kr
theorem zGT (n : Nat) (x0 : zA) (x1 : Int) (x2 : Vec) (r : zA) (H : Zt n x0 x1 x2 = some r) : zK Try.prog 16 [.val true (CV.frzRow (zA.row x0)),.val false [.lit (.int .i64 x1)],.val true (CV.frzRow (Vec.row x2))] [.val true (zA.row r)] [] := by
 refine cW Try.func16 (fun g d => sl [g 0,g 1,sl [g 2] (cn 24 (sl [d 3] (g 4)) .skip),g 5] .ret) [.cell 6 42] fun cx => ?_
 unfold Zt at H
 refine gA 3 106 104 ?_
 refine rA 1 ?_
 obtain ⟨r1,er1,H⟩ := bs H
 refine vA [.rd] (J5 n x0 r1 er1) ?_
 refine uA 2 234 232 ?_
 refine tS ?_
 refine tS ?_
 refine Tr.mid (ι := Bool) (fun v => ⟨38,0,[sB 24 v,sA 7 7 11 0,sA 6 6 11 0,sA 5 5 5 0,sI 1 x1],[(7,(zA.row r1)),(6,[cI 0,cS (⟨#[]⟩ : ByteArray),cL 8 ([] : List Pt) Pt.row,cL 5 ([] : List zB) zB.row,cL 3 ([] : List zC) zC.row,cL 1 ([] : List Int) intRow,cI 0,cI 0,cI 0,cI 0,cI 0]),(5,(Vec.row x2))]⟩) (fun v => Zi n r1 x1 x2 v = some r) ?_ ?_
 ·refine Tr.at ?_
  refine lA 2 ?_
  obtain ⟨r6,er6,H⟩ := bs H
  refine vA [.rd,.rd] (zD0 n x0 x1 r6 er6) ?_
  refine lA 1 ?_
  refine sL 8426 232 ⟨38,0,[sB 13 r6,sA 7 7 11 0,sA 6 6 11 0,sA 5 5 5 0,sA 3 3 11 0,sI 1 x1],[(7,(zA.row r1)),(6,[cI 0,cS (⟨#[]⟩ : ByteArray),cL 8 ([] : List Pt) Pt.row,cL 5 ([] : List zB) zB.row,cL 3 ([] : List zC) zC.row,cL 1 ([] : List Int) intRow,cI 0,cI 0,cI 0,cI 0,cI 0]),(5,(Vec.row x2)),(3,(CV.frzRow (zA.row x0)))]⟩ ?_
  cases h2 : r6
  ·have H := zL h2 H
   refine uA 11 16777442 224 ?_
   exact jA false H [24,7,6,5,1] [7,6,5]
  have H := zM h2 H
  refine lA 3 ?_
  obtain ⟨v7,ev7,H⟩ := bs H
  refine iA Pt.row ev7 ?_
  refine lA 4 ?_
  refine sL 2097378 224 ⟨38,0,[sB 21 v7.Up,sA 7 7 11 0,sA 6 6 11 0,sA 5 5 5 0,sI 1 x1],[(7,(zA.row r1)),(6,[cI 0,cS (⟨#[]⟩ : ByteArray),cL 8 ([] : List Pt) Pt.row,cL 5 ([] : List zB) zB.row,cL 3 ([] : List zC) zC.row,cL 1 ([] : List Int) intRow,cI 0,cI 0,cI 0,cI 0,cI 0]),(5,(Vec.row x2))]⟩ ?_
  cases h3 : v7.Up
  ·have H := zL h3 H
   refine uA 3 16777442 224 ?_
   exact jA false H [24,7,6,5,1] [7,6,5]
  have H := zM h3 H
  refine lA 1 ?_
  obtain ⟨r8,er8,H⟩ := bs H
  refine vA [.rd] (J4 n x2 r8 er8) ?_
  refine uA 1 16777442 224 ?_
  exact jA r8 H [24,7,6,5,1] [7,6,5]
 rintro y2 H
 have H : (Zi n r1 x1 x2 y2) = some r := H
 unfold Zi at H
 cases h1 : y2
 ·have H := zL h1 H
  refine nB_ ?_
  refine tK ?_
  refine gA 2 64 64 ?_
  exact te (fJ [(true,(zA.row r1))] H)
 have H := zM h1 H
 refine tB_ ?_
 obtain ⟨v3,ev3,H⟩ := bs H
 obtain ⟨v4,ev4,H⟩ := bs H
 refine Tr.draws mixed 13 kr ⟨38,0,[sA 7 7 11 0,sA 6 6 11 0],[(7,[cI r1.Id,cS r1.Name,cL 8 ((r1.Ps.set (x1.toNat) (⟨v3.Up,v3.Co,true,v3.Hd⟩ : Pt)).set (x1.toNat) (⟨v4.Up,v4.Co,v4.Has,x2⟩ : Pt)) Pt.row,cL 5 r1.F zB.row,cL 3 r1.V.Rows zC.row,cL 1 r1.V.Pv intRow,cI r1.Tk,cI r1.Pa,cI r1.Wo,cI r1.Dr,cI r1.Ve]),(6,[cI 0,cS (⟨#[]⟩ : ByteArray),cL 8 ([] : List Pt) Pt.row,cL 5 ([] : List zB) zB.row,cL 3 ([] : List zC) zC.row,cL 1 ([] : List Int) intRow,cI 0,cI 0,cI 0,cI 0,cI 0])]⟩ (fun cx => ?_) ?_
 ·refine mA zBd [(0,[]),(1,[9,12]),(2,[]),(3,[]),(4,[9,12]),(5,[]),(6,[12])] 6 [⟨[12],46,5,31⟩,⟨[9,12],35,28,29⟩,⟨[9,12],35,25,26⟩] fun cx => ?_
  refine oN zBd 7 Pt.row ev3 fun cx => ?_
  refine mA zBd [(8,[])] 4 [⟨[12],46,5,31⟩,⟨[9,12],35,28,29⟩,⟨[9,12],35,25,26⟩] fun cx => ?_
  refine sA_ 12717129952 224 ⟨38,0,[(33,.adr (.box 7) [(0,0),(2,(x1.toNat))] 8 2),sV 31 (Vec.row x2),sI 30 x1,sR 29 7 11 2 1 false,sA 28 7 11 2,sR 26 7 11 2 1 false,sA 25 7 11 2,sA 7 7 11 0,sA 6 6 11 0,sA 5 5 5 0],[(7,(zA.row r1)),(6,[cI 0,cS (⟨#[]⟩ : ByteArray),cL 8 ([] : List Pt) Pt.row,cL 5 ([] : List zB) zB.row,cL 3 ([] : List zC) zC.row,cL 1 ([] : List Int) intRow,cI 0,cI 0,cI 0,cI 0,cI 0]),(5,(Vec.row x2))]⟩ ?_
  refine mC zBd 9 ?_
  refine LAt.storeB tOk (t := 4) (ty := 0) (ad := (.tmp 33)) (x := (.const (.bool true))) (g := none) (tI 4) false [cB true] 7 2 (x1.toNat) 8 2 8 r1.Ps Pt.row v3 (⟨v3.Up,v3.Co,true,v3.Hd⟩ : Pt) kr kr kr kr kr kr kr kr (qc ev3).2 kr kr kr kr ?_
  refine fA ?_
  refine oN zBd 10 Pt.row ev4 fun cx => ?_
  refine mA zBd [(11,[])] 1 [⟨[12],46,5,31⟩,⟨[9,12],35,28,29⟩,⟨[9,12],35,25,26⟩] fun cx => ?_
  refine sA_ 37413191904 224 ⟨38,0,[(35,.adr (.box 7) [(0,0),(2,(x1.toNat))] 8 3),sV 31 (Vec.row x2),sA 28 7 11 2,sA 25 7 11 2,sA 7 7 11 0,sA 6 6 11 0,sA 5 5 5 0,sR 29 7 11 2 1 false,sR 26 7 11 2 1 false],[(7,[cI r1.Id,cS r1.Name,cL 8 (r1.Ps.set (x1.toNat) (⟨v3.Up,v3.Co,true,v3.Hd⟩ : Pt)) Pt.row,cL 5 r1.F zB.row,cL 3 r1.V.Rows zC.row,cL 1 r1.V.Pv intRow,cI r1.Tk,cI r1.Pa,cI r1.Wo,cI r1.Dr,cI r1.Ve]),(6,[cI 0,cS (⟨#[]⟩ : ByteArray),cL 8 ([] : List Pt) Pt.row,cL 5 ([] : List zB) zB.row,cL 3 ([] : List zC) zC.row,cL 1 ([] : List Int) intRow,cI 0,cI 0,cI 0,cI 0,cI 0]),(5,(Vec.row x2))]⟩ ?_
  refine mC zBd 12 ?_
  refine LAt.storeB tOk (t := 46) (ty := 0) (ad := (.tmp 35)) (x := (.tmp 31)) (g := none) (tI 46) true (Vec.row x2) 7 2 (x1.toNat) 8 3 8 (r1.Ps.set (x1.toNat) (⟨v3.Up,v3.Co,true,v3.Hd⟩ : Pt)) Pt.row v4 (⟨v4.Up,v4.Co,v4.Has,x2⟩ : Pt) kr kr kr kr kr kr kr kr (qc ev4).2 kr kr kr kr ?_
  refine fA ?_
  exact mE zBd [7,6] [7,6]
 refine Tr.at ?_
 obtain ⟨r5,er5,H⟩ := bs H
 refine LAt.callL tOk [.lend] (f := 55) (av := #[.tmp 7]) (ats := #[42]) (d := (some 36)) (ty := 0) (g := none) kr kr kr [] (Jj n (⟨r1.Id,r1.Name,((r1.Ps.set (x1.toNat) (⟨v3.Up,v3.Co,true,v3.Hd⟩ : Pt)).set (x1.toNat) (⟨v4.Up,v4.Co,v4.Has,x2⟩ : Pt)),r1.F,r1.V,r1.Tk,r1.Pa,r1.Wo,r1.Dr,r1.Ve⟩ : zA) r5 er5) kr (.inl rfl) ?_
 refine dA 192 192 ?_
 refine gA 2 64 64 ?_
 exact te (fJ [(true,(zA.row r5))] H)
def ZZ (n : Nat) (x0 : (List Int)) (x1 : Int) : Option (Int) :=
  (bif (decide (x1 < (x0.length : Int))) then ((idx x0 x1).bind fun v2 => (some (IntKind.wrap .i64 v2))) else (bif (decide ((256 : Int) ≠ 0)) then (some (Int.tmod (IntKind.wrap .i64 ((IntKind.wrap .i64 (x1 * 31)) + (IntKind.wrap .i64 ((x0.length : Int) * 7)))) 256)) else none))
theorem Jr (n : Nat) (x0 : (List Int)) (x1 : Int) (r : Int) (H : ZZ n x0 x1 = some r) : zK Try.prog 18 [.val false [.sl false 1 (CV.frzEs (x0.map zF))],.val false [.lit (.int .i64 x1)]] [.val false [.lit (.int .i64 r)]] [] := by
 refine cW Try.func18 (fun g d => sl [g 0,sl [g 1] (cn 8 (sl [g 2] .ret) .skip),g 3] .ret) [.tmp 4] fun cx => ?_
 unfold ZZ at H
 refine gA 1 3 0 ?_
 refine tS ?_
 refine rA 2 ?_
 refine kF x0 zF ?_
 refine uA 1 259 0 ?_
 obtain ⟨h1,H⟩ | ⟨h1,H⟩ := bC H
 ·refine nA h1 ?_
  refine tK ?_
  refine rA 3 ?_
  refine kF x0 zF ?_
  refine lA 2 ?_
  obtain ⟨hg1,H⟩ := gs H
  refine LAt.binC tOk (op := .rem) (t := 3) (ty := 3) (ty' := 3) (x := (.tmp 19)) (y := (.const (.int .i64 256))) (d := 20) (g := none) (.int .i64 (IntKind.wrap .i64 ((IntKind.wrap .i64 (x1 * 31)) + (IntKind.wrap .i64 ((x0.length : Int) * 7))))) (.int .i64 256) (.int .i64 (Int.tmod (IntKind.wrap .i64 ((IntKind.wrap .i64 (x1 * 31)) + (IntKind.wrap .i64 ((x0.length : Int) * 7)))) 256)) _ kr kr kr kr kr (φ := (IntKind.i64 = IntKind.i64 ∧ (256 : Int) ≠ 0)) kr (⟨rfl,of_decide_eq_true hg1⟩) rfl ?_
  refine uA 1 16 0 ?_
  exact te (fJ [(false,[cI (Int.tmod (IntKind.wrap .i64 ((IntKind.wrap .i64 (x1 * 31)) + (IntKind.wrap .i64 ((x0.length : Int) * 7)))) 256)])] H)
 refine tA h1 ?_
 refine rA 2 ?_
 obtain ⟨v2,ev2,H⟩ := bs H
 refine iA zF ev2 ?_
 refine uA 3 16 0 ?_
 exact te (fJ [(false,[cI (IntKind.wrap .i64 v2)])] H)
def Qp (n : Nat) (x0 : zA) (x1 : Int) (x2 : Bool) : Option (zA) :=
  ((ZY n x0).bind fun r1 => ((Q4 n x0 x1).bind fun r2 => (bif r2 then ((idx x0.Ps x1).bind fun v3 => ((idx r1.Ps x1).bind fun v4 => ((qs n (⟨r1.Id,r1.Name,(r1.Ps.set (x1.toNat) (⟨x2,v3.Co,false,(⟨0,0,0,0,0⟩ : Vec)⟩ : Pt)),r1.F,r1.V,r1.Tk,r1.Pa,r1.Wo,r1.Dr,r1.Ve⟩ : zA)).bind fun r5 => (some r5)))) else (some r1))))
def zJb : Tab := ⟨13,[0,1,0,0,0,16,0,96,128,256,520,2047,4095],[0,1,0,0,0,16,0,96,128,256,520,6,3072],[0,1,0,0,0,16,0,112,240,496,1016,2047,4095]⟩
theorem zCO : qF (rg Try.f17 3) zJb = true := kr
theorem J0 (n : Nat) (x0 : zA) (x1 : Int) (x2 : Bool) (r : zA) (H : Qp n x0 x1 x2 = some r) : zK Try.prog 17 [.val true (CV.frzRow (zA.row x0)),.val false [.lit (.int .i64 x1)],.val false [.lit (.bool x2)]] [.val true (zA.row r)] [] := by
 refine cW Try.func17 (fun g d => sl [g 0,g 1,sl [g 2] (cn 12 (sl [d 3] (g 4)) .skip),g 5] .ret) [.cell 6 42] fun cx => ?_
 unfold Qp at H
 refine gA 2 78 72 ?_
 refine rA 1 ?_
 obtain ⟨r1,er1,H⟩ := bs H
 refine vA [.rd] (J5 n x0 r1 er1) ?_
 refine uA 2 206 200 ?_
 refine tS ?_
 refine rA 2 ?_
 obtain ⟨r2,er2,H⟩ := bs H
 refine vA [.rd,.rd] (zD0 n x0 x1 r2 er2) ?_
 refine dA 4302 200 ?_
 cases h1 : r2
 ·have H := zL h1 H
  refine nB_ ?_
  refine tK ?_
  refine gA 2 64 64 ?_
  exact te (fJ [(true,(zA.row r1))] H)
 have H := zM h1 H
 refine tB_ ?_
 obtain ⟨v3,ev3,H⟩ := bs H
 obtain ⟨v4,ev4,H⟩ := bs H
 refine Tr.draws mixed 13 kr ⟨27,0,[sA 7 7 11 0,sA 6 6 11 0],[(7,[cI r1.Id,cS r1.Name,cL 8 (r1.Ps.set (x1.toNat) (⟨x2,v3.Co,false,(⟨0,0,0,0,0⟩ : Vec)⟩ : Pt)) Pt.row,cL 5 r1.F zB.row,cL 3 r1.V.Rows zC.row,cL 1 r1.V.Pv intRow,cI r1.Tk,cI r1.Pa,cI r1.Wo,cI r1.Dr,cI r1.Ve]),(6,[cI 0,cS (⟨#[]⟩ : ByteArray),cL 8 ([] : List Pt) Pt.row,cL 5 ([] : List zB) zB.row,cL 3 ([] : List zC) zC.row,cL 1 ([] : List Int) intRow,cI 0,cI 0,cI 0,cI 0,cI 0])]⟩ (fun cx => ?_) ?_
 ·refine mA zCO [(0,[]),(1,[12]),(2,[]),(3,[]),(4,[]),(5,[10,12]),(6,[])] 6 [⟨[10,12],35,17,18⟩,⟨[12],35,13,14⟩] fun cx => ?_
  refine iN zCO 7 Pt.row ev3 fun cx => ?_
  refine mA zCO [(8,[]),(9,[])] 3 [⟨[10,12],35,17,18⟩,⟨[12],35,13,14⟩] fun cx => ?_
  refine mC zCO 10 ?_
  refine lA 1 ?_
  refine fA ?_
  refine oN zCO 11 Pt.row ev4 fun cx => ?_
  refine mC zCO 12 ?_
  refine LAt.storeB tOk (t := 55) (ty := 0) (ad := (.tmp 24)) (x := (.tmp 23)) (g := none) (tI 55) true [cB x2,cI v3.Co,cB false,cI 0,cI 0,cI 0,cI 0,cI 0] 7 2 (x1.toNat) 8 0 8 r1.Ps Pt.row v4 (⟨x2,v3.Co,false,(⟨0,0,0,0,0⟩ : Vec)⟩ : Pt) kr kr kr kr kr kr kr kr (qc ev4).2 kr kr kr kr ?_
  refine fA ?_
  exact mE zCO [7,6] [7,6]
 refine Tr.at ?_
 obtain ⟨r5,er5,H⟩ := bs H
 refine LAt.callL tOk [.lend] (f := 55) (av := #[.tmp 7]) (ats := #[42]) (d := (some 25)) (ty := 0) (g := none) kr kr kr [] (Jj n (⟨r1.Id,r1.Name,(r1.Ps.set (x1.toNat) (⟨x2,v3.Co,false,(⟨0,0,0,0,0⟩ : Vec)⟩ : Pt)),r1.F,r1.V,r1.Tk,r1.Pa,r1.Wo,r1.Dr,r1.Ve⟩ : zA) r5 er5) kr (.inl rfl) ?_
 refine dA 192 192 ?_
 refine gA 2 64 64 ?_
 exact te (fJ [(true,(zA.row r5))] H)
def Y6 (n : Nat) (y3 : (List zB)) : Option ((List zB)) :=
  (some y3)
def q6 (n : Nat) : Nat → (List zB) → Int → (List zB) → Option (((List zB)) ⊕ ((List zB)))
  | 0,_,_,_ => none
  | mo4 + 1,x0,y1,y2 => (bif (decide (y1 < (x0.length : Int))) then ((idx x0 y1).bind fun v5 => (bif (!v5.Sc) then (bif (decide (v5.Age ≥ 4)) then (q6 n mo4 x0 (IntKind.wrap .i64 (y1 + 1)) y2) else (bif (decide (y2.length + [(⟨v5.Tag,v5.Mac,v5.Port,(IntKind.wrap .i64 (v5.Age + 1)),v5.Sc⟩ : zB)].length ≤ 268435456)) then (q6 n mo4 x0 (IntKind.wrap .i64 (y1 + 1)) (y2 ++ [(⟨v5.Tag,v5.Mac,v5.Port,(IntKind.wrap .i64 (v5.Age + 1)),v5.Sc⟩ : zB)])) else none)) else (bif (decide (y2.length + [v5].length ≤ 268435456)) then (q6 n mo4 x0 (IntKind.wrap .i64 (y1 + 1)) (y2 ++ [v5])) else none))) else (some (Sum.inl y2)))
def Yn (n : Nat) (x0 : (List zB)) : Option ((List zB)) :=
  ((q6 n n x0 0 ([] : List zB)).bind fun o => match o with | .inl y3 => (Y6 n y3) | .inr r => some r)
theorem zGw (n : Nat) (x0 : (List zB)) (r : (List zB)) (H : Yn n x0 = some r) : zK Try.prog 57 [.val false [.sl false 5 (CV.frzEs (x0.map zB.row))]] [.val false [.sl true 5 (r.map zB.row)]] [] := by
 refine cW Try.func57 (fun g d => sl [g 0,g 1,sl [g 2] (.block 0 (.loop (sl [g 3,cn 9 .skip (.exit 0),.block 1 (sl [g 4,sl [g 5] (cn 14 (sl [sl [g 6] (cn 17 (.exit 1) .skip)] (g 7)) .skip)] (g 8))] (g 9)))),g 10] .ret) [.tmp 2] fun cx => ?_
 unfold Yn at H
 refine gA 1 1 0 ?_
 refine gA 1 9 0 ?_
 refine tS ?_
 refine rA 1 ?_
 refine kF x0 zB.row ?_
 refine uA 1 456 0 ?_
 obtain ⟨o4,eo4,Ho4⟩ := bs H
 clear H
 refine Tr.mid (ι := (List zB)) (fun v => ⟨28,0,[sC 3 (cL 5 v zB.row)],[]⟩) (fun v => Y6 n v = some r) ?_ ?_
 ·refine tB ?_
  refine Tr.loop (ι := Nat × (Int × (List zB))) (fun v => ⟨28,0,[sI 8 v.2.1,sI 7 (x0.length : Int),sC 6 (cF 5 x0 zB.row),sC 3 (cL 5 v.2.2 zB.row)],[]⟩) (fun v => q6 n v.1 x0 v.2.1 v.2.2 = some o4) (fun v => v.1) (n,(0,([] : List zB))) eo4 (St.sub_of [8,7,6,3] [] kr) ?_
  rintro ⟨mo4,y1,y2⟩ H
  have H : q6 n mo4 x0 y1 y2 = some o4 := H
  obtain _ | mo4 := mo4
  ·exact nN H
  rw [q6] at H
  refine gA 1 968 0 ?_
  refine tS ?_
  obtain ⟨h1,H⟩ | ⟨h1,H⟩ := bC H
  ·refine nA h1 ?_
   refine Tr.exit ?_
   refine aJ ?_
   obtain rfl := si H
   have H := Ho4
   dsimp only at H
   exact jA y2 H [3] []
  refine tA h1 ?_
  refine tK ?_
  refine tS ?_
  refine tB ?_
  refine tR ?_
  obtain ⟨v5,ev5,H⟩ := bs H
  refine iA zB.row ev5 ?_
  refine uA 3 488 32 ?_
  refine tS ?_
  refine gA 3 16872 32 ?_
  obtain ⟨h2,H⟩ | ⟨h2,H⟩ := bC H
  ·refine nA h2 ?_
   refine tK ?_
   refine Tr.at ?_
   refine lA 3 ?_
   obtain ⟨hg6,H⟩ := gs H
   refine LAt.appMU tOk (t := 36) (ty := 36) (e := 60) (x := (.tmp 22)) (y := (.tmp 24)) (d := 25) (g := none) (tI 60) zB.row y2 [v5] kr kr kr kr kr kr kr kr kr kr hg6 ?_
   refine LAt.moveU (T := lk tab) (ty := 36) (x := (.tmp 25)) (d := 3) (g := none) false [cL 5 (y2 ++ [v5]) zB.row] kr kr kr kr kr ?_
   refine dA 456 0 ?_
   refine eA 2 456 0 ?_
   exact jB mo4 ((IntKind.wrap .i64 (y1 + 1)),(y2 ++ [v5])) H [8,7,6,3] []
  refine tA h2 ?_
  refine tS ?_
  refine gA 3 131560 32 ?_
  obtain ⟨h3,H⟩ | ⟨h3,H⟩ := bC H
  ·refine nA h3 ?_
   refine tK ?_
   refine eA 5 488 32 ?_
   refine Tr.at ?_
   refine lA 3 ?_
   obtain ⟨hg7,H⟩ := gs H
   refine LAt.appMU tOk (t := 36) (ty := 36) (e := 60) (x := (.tmp 22)) (y := (.tmp 24)) (d := 25) (g := none) (tI 60) zB.row y2 [(⟨v5.Tag,v5.Mac,v5.Port,(IntKind.wrap .i64 (v5.Age + 1)),v5.Sc⟩ : zB)] kr kr kr kr kr kr kr kr kr kr hg7 ?_
   refine LAt.moveU (T := lk tab) (ty := 36) (x := (.tmp 25)) (d := 3) (g := none) false [cL 5 (y2 ++ [(⟨v5.Tag,v5.Mac,v5.Port,(IntKind.wrap .i64 (v5.Age + 1)),v5.Sc⟩ : zB)]) zB.row] kr kr kr kr kr ?_
   refine dA 456 0 ?_
   refine eA 2 456 0 ?_
   exact jB mo4 ((IntKind.wrap .i64 (y1 + 1)),(y2 ++ [(⟨v5.Tag,v5.Mac,v5.Port,(IntKind.wrap .i64 (v5.Age + 1)),v5.Sc⟩ : zB)])) H [8,7,6,3] []
  refine tA h3 ?_
  refine Tr.exit ?_
  refine aJ ?_
  refine eA 2 456 0 ?_
  exact jB mo4 ((IntKind.wrap .i64 (y1 + 1)),y2) H [8,7,6,3] []
 rintro y3 H
 have H : (Y6 n y3) = some r := H
 unfold Y6 at H
 refine gA 2 12 0 ?_
 exact te (fJ [(false,[cL 5 y3 zB.row])] H)
def J3 (n : Nat) (x0 : zA) : Option (zA) :=
  ((ZY n x0).bind fun r1 => ((zQ n x0).bind fun r2 => (bif r2 then ((JA n x0.Tk).bind fun r3 => ((Yn n x0.F).bind fun r4 => ((qs n (⟨r1.Id,r1.Name,r1.Ps,r4,r1.V,r3,r1.Pa,r1.Wo,r1.Dr,r1.Ve⟩ : zA)).bind fun r5 => (some r5)))) else (some r1))))
theorem zIF (n : Nat) (x0 : zA) (r : zA) (H : J3 n x0 = some r) : zK Try.prog 19 [.val true (CV.frzRow (zA.row x0))] [.val true (zA.row r)] [] := by
 refine cW Try.func19 (fun g d => sl [g 0,g 1,sl [g 2] (cn 7 (sl [g 3,g 4] (g 5)) .skip),g 6] .ret) [.cell 2 42] fun cx => ?_
 unfold J3 at H
 refine gA 2 6 6 ?_
 refine rA 1 ?_
 obtain ⟨r1,er1,H⟩ := bs H
 refine vA [.rd] (J5 n x0 r1 er1) ?_
 refine uA 2 14 14 ?_
 refine tS ?_
 refine rA 1 ?_
 obtain ⟨r2,er2,H⟩ := bs H
 refine vA [.rd] (zl n x0 r2 er2) ?_
 refine dA 142 14 ?_
 cases h1 : r2
 ·have H := zL h1 H
  refine nB_ ?_
  refine tK ?_
  refine gA 2 4 4 ?_
  exact te (fJ [(true,(zA.row r1))] H)
 have H := zM h1 H
 refine tB_ ?_
 refine rA 2 ?_
 obtain ⟨r3,er3,H⟩ := bs H
 refine vA [.rd] (zFr n x0.Tk r3 er3) ?_
 refine uA 2 14 14 ?_
 refine rA 2 ?_
 obtain ⟨r4,er4,H⟩ := bs H
 refine vA [.rd] (zGw n x0.F r4 er4) ?_
 refine uA 2 12 12 ?_
 refine Tr.at ?_
 obtain ⟨r5,er5,H⟩ := bs H
 refine LAt.callL tOk [.lend] (f := 55) (av := #[.tmp 3]) (ats := #[42]) (d := (some 16)) (ty := 0) (g := none) kr kr kr [] (Jj n (⟨r1.Id,r1.Name,r1.Ps,r4,r1.V,r3,r1.Pa,r1.Wo,r1.Dr,r1.Ve⟩ : zA) r5 er5) kr (.inl rfl) ?_
 refine dA 12 12 ?_
 refine gA 2 4 4 ?_
 exact te (fJ [(true,(zA.row r5))] H)
def YF (n : Nat) : Option (Bool) :=
  (some true)
def qy (n : Nat) : Nat → (List zC) → (List zC) → Int → Option ((Unit) ⊕ (Bool))
  | 0,_,_,_ => none
  | mo2 + 1,x0,x1,y1 => (bif (decide (y1 < (x0.length : Int))) then ((idx x0 y1).bind fun v3 => ((idx x1 y1).bind fun v4 => (bif (!((v3.Id == v4.Id) && ((v3.Members == v4.Members) && ((v3.Bare == v4.Bare) && true)))) then (some (Sum.inr false)) else (qy n mo2 x0 x1 (IntKind.wrap .i64 (y1 + 1)))))) else (some (Sum.inl ())))
def Q5 (n : Nat) (x0 : (List zC)) (x1 : (List zC)) : Option (Bool) :=
  (bif ((x0.length : Int) != (x1.length : Int)) then (some false) else ((qy n n x0 x1 0).bind fun o => match o with | .inl _ => (YF n) | .inr r => some r))
theorem zF5 (n : Nat) (x0 : (List zC)) (x1 : (List zC)) (r : Bool) (H : Q5 n x0 x1 = some r) : zK Try.prog 58 [.val false [.sl false 3 (CV.frzEs (x0.map zC.row))],.val false [.sl false 3 (CV.frzEs (x1.map zC.row))]] [.val false [.lit (.bool r)]] [] := by
 refine cW Try.func58 (fun g d => sl [g 0,sl [g 1] (cn 10 (sl [g 2] .ret) .skip),sl [g 3] (.block 0 (.loop (sl [g 4,cn 14 .skip (.exit 0),.block 1 (sl [g 5,d 6] (cn 24 (sl [g 7] .ret) .skip))] (g 8)))),g 9] .ret) [.tmp 4] fun cx => ?_
 unfold Q5 at H
 refine gA 1 3 0 ?_
 refine tS ?_
 refine rA 1 ?_
 refine kF x0 zC.row ?_
 refine lA 1 ?_
 refine kF x1 zC.row ?_
 refine uA 1 1027 0 ?_
 obtain ⟨h1,H⟩ | ⟨h1,H⟩ := bC H
 ·refine nA h1 ?_
  refine tK ?_
  refine tS ?_
  refine rA 1 ?_
  refine kF x0 zC.row ?_
  refine uA 1 12291 0 ?_
  obtain ⟨o2,eo2,Ho2⟩ := bs H
  clear H
  refine Tr.mid (ι := Unit) (fun v => ⟨26,0,[],[]⟩) (fun v => YF n = some r) ?_ ?_
  ·refine tB ?_
   refine Tr.loop (ι := Nat × (Int)) (fun v => ⟨26,0,[sI 13 v.2,sI 12 (x0.length : Int),sC 0 (cF 3 x0 zC.row),sC 1 (cF 3 x1 zC.row)],[]⟩) (fun v => qy n v.1 x0 x1 v.2 = some o2) (fun v => v.1) (n,0) eo2 (St.sub_of [13,12,0,1] [] kr) ?_
   rintro ⟨mo2,y1⟩ H
   have H : qy n mo2 x0 x1 y1 = some o2 := H
   obtain _ | mo2 := mo2
   ·exact nN H
   rw [qy] at H
   refine gA 1 28675 0 ?_
   refine tS ?_
   obtain ⟨h2,H⟩ | ⟨h2,H⟩ := bC H
   ·refine nA h2 ?_
    refine Tr.exit ?_
    refine aJ ?_
    obtain rfl := si H
    have H := Ho2
    dsimp only at H
    exact jA () H [] []
   refine tA h2 ?_
   refine tK ?_
   refine tS ?_
   refine tB ?_
   refine gA 2 12323 0 ?_
   obtain ⟨v3,ev3,H⟩ := bs H
   obtain ⟨v4,ev4,H⟩ := bs H
   refine Tr.draws mixed 9 kr ⟨26,0,[sB 24 (!((v3.Id == v4.Id) && ((v3.Members == v4.Members) && ((v3.Bare == v4.Bare) && true)))),sI 13 y1,sI 12 (x0.length : Int),sC 0 (cF 3 x0 zC.row),sC 1 (cF 3 x1 zC.row)],[]⟩ (fun cx => ?_) ?_
   ·refine aA [(0,[]),(1,[])] 7 [] fun cx => ?_
    refine aI tOk 2 37 0 16 17 18 none ⟨(.slot 16),[],0,false,3,(CV.frzEs (x0.map zC.row))⟩ y1 (zC.row v3) _ kr kr kr kr kr kr rfl (Qb ev3) rfl (fun cx => ?_)
    refine aA [(3,[]),(4,[]),(5,[])] 3 [] fun cx => ?_
    refine aI tOk 6 37 0 20 21 22 none ⟨(.slot 20),[],0,false,3,(CV.frzEs (x1.map zC.row))⟩ y1 (zC.row v4) _ kr kr kr kr kr kr rfl (Qb ev4) rfl (fun cx => ?_)
    refine aA [(7,[])] 1 [] fun cx => ?_
    refine bA 8 ?_
    refine LAt.eqSG true (t := 114) (ty := 114) (ty' := 4) (x := (.tmp 19)) (y := (.tmp 23)) (d := 24) (g := none) ((v3.Id == v4.Id) && ((v3.Members == v4.Members) && ((v3.Bare == v4.Bare) && true))) _ kr kr kr kr rfl ?_
    refine fA ?_
    exact eE [24,13,12,0,1] []
   refine sT ⟨26,0,[sB 24 (!((v3.Id == v4.Id) && ((v3.Members == v4.Members) && ((v3.Bare == v4.Bare) && true)))),sI 13 y1,sI 12 (x0.length : Int),sC 0 (cF 3 x0 zC.row),sC 1 (cF 3 x1 zC.row)],[]⟩ ?_
   cases h3 : (!((v3.Id == v4.Id) && ((v3.Members == v4.Members) && ((v3.Bare == v4.Bare) && true))))
   ·have H := zL h3 H
    refine nB_ ?_
    refine tK ?_
    refine eA 2 12291 0 ?_
    exact jB mo2 (IntKind.wrap .i64 (y1 + 1)) H [13,12,0,1] []
   have H := zM h3 H
   refine tB_ ?_
   refine gA 1 16 0 ?_
   refine te ?_
   obtain rfl := si H
   have H := Ho2
   dsimp only at H
   exact fF H
  rintro _ H
  have H : (YF n) = some r := H
  unfold YF at H
  refine gA 1 16 0 ?_
  exact te (fT H)
 refine tA h1 ?_
 refine gA 1 16 0 ?_
 exact te (fF H)
def Yf (n : Nat) : Option (Bool) :=
  (some true)
def ZC (n : Nat) : Nat → (List Int) → (List Int) → Int → Option ((Unit) ⊕ (Bool))
  | 0,_,_,_ => none
  | mo2 + 1,x0,x1,y1 => (bif (decide (y1 < (x0.length : Int))) then ((idx x0 y1).bind fun v3 => ((idx x1 y1).bind fun v4 => (bif (v3 != v4) then (some (Sum.inr false)) else (ZC n mo2 x0 x1 (IntKind.wrap .i64 (y1 + 1)))))) else (some (Sum.inl ())))
def YN (n : Nat) (x0 : (List Int)) (x1 : (List Int)) : Option (Bool) :=
  (bif ((x0.length : Int) != (x1.length : Int)) then (some false) else ((ZC n n x0 x1 0).bind fun o => match o with | .inl _ => (Yf n) | .inr r => some r))
theorem zGU (n : Nat) (x0 : (List Int)) (x1 : (List Int)) (r : Bool) (H : YN n x0 x1 = some r) : zK Try.prog 29 [.val false [.sl false 1 (CV.frzEs (x0.map intRow))],.val false [.sl false 1 (CV.frzEs (x1.map intRow))]] [.val false [.lit (.bool r)]] [] := by
 refine cW Try.func29 (fun g d => sl [g 0,sl [g 1] (cn 10 (sl [g 2] .ret) .skip),sl [g 3] (.block 0 (.loop (sl [g 4,cn 14 .skip (.exit 0),.block 1 (sl [g 5,d 6] (cn 24 (sl [g 7] .ret) .skip))] (g 8)))),g 9] .ret) [.tmp 4] fun cx => ?_
 unfold YN at H
 refine gA 1 3 0 ?_
 refine tS ?_
 refine rA 1 ?_
 refine kF x0 intRow ?_
 refine lA 1 ?_
 refine kF x1 intRow ?_
 refine uA 1 1027 0 ?_
 obtain ⟨h1,H⟩ | ⟨h1,H⟩ := bC H
 ·refine nA h1 ?_
  refine tK ?_
  refine tS ?_
  refine rA 1 ?_
  refine kF x0 intRow ?_
  refine uA 1 12291 0 ?_
  obtain ⟨o2,eo2,Ho2⟩ := bs H
  clear H
  refine Tr.mid (ι := Unit) (fun v => ⟨26,0,[],[]⟩) (fun v => Yf n = some r) ?_ ?_
  ·refine tB ?_
   refine Tr.loop (ι := Nat × (Int)) (fun v => ⟨26,0,[sI 13 v.2,sI 12 (x0.length : Int),sC 0 (cF 1 x0 intRow),sC 1 (cF 1 x1 intRow)],[]⟩) (fun v => ZC n v.1 x0 x1 v.2 = some o2) (fun v => v.1) (n,0) eo2 (St.sub_of [13,12,0,1] [] kr) ?_
   rintro ⟨mo2,y1⟩ H
   have H : ZC n mo2 x0 x1 y1 = some o2 := H
   obtain _ | mo2 := mo2
   ·exact nN H
   rw [ZC] at H
   refine gA 1 28675 0 ?_
   refine tS ?_
   obtain ⟨h2,H⟩ | ⟨h2,H⟩ := bC H
   ·refine nA h2 ?_
    refine Tr.exit ?_
    refine aJ ?_
    obtain rfl := si H
    have H := Ho2
    dsimp only at H
    exact jA () H [] []
   refine tA h2 ?_
   refine tK ?_
   refine tS ?_
   refine tB ?_
   refine gA 2 12323 0 ?_
   obtain ⟨v3,ev3,H⟩ := bs H
   obtain ⟨v4,ev4,H⟩ := bs H
   refine Tr.draws mixed 9 kr ⟨26,0,[sB 24 (v3 != v4),sI 13 y1,sI 12 (x0.length : Int),sC 0 (cF 1 x0 intRow),sC 1 (cF 1 x1 intRow)],[]⟩ (fun cx => ?_) ?_
   ·refine aA [(0,[]),(1,[])] 7 [] fun cx => ?_
    refine aI tOk 2 38 0 16 17 18 none ⟨(.slot 16),[],0,false,1,(CV.frzEs (x0.map intRow))⟩ y1 [cI v3] _ kr kr kr kr kr kr rfl (Qb ev3) rfl (fun cx => ?_)
    refine aA [(3,[]),(4,[]),(5,[])] 3 [] fun cx => ?_
    refine aI tOk 6 38 0 20 21 22 none ⟨(.slot 20),[],0,false,1,(CV.frzEs (x1.map intRow))⟩ y1 [cI v4] _ kr kr kr kr kr kr rfl (Qb ev4) rfl (fun cx => ?_)
    refine aA [(7,[]),(8,[])] 0 [] fun cx => ?_
    exact eE [24,13,12,0,1] []
   refine sT ⟨26,0,[sB 24 (v3 != v4),sI 13 y1,sI 12 (x0.length : Int),sC 0 (cF 1 x0 intRow),sC 1 (cF 1 x1 intRow)],[]⟩ ?_
   cases h3 : (v3 != v4)
   ·have H := zL h3 H
    refine nB_ ?_
    refine tK ?_
    refine eA 2 12291 0 ?_
    exact jB mo2 (IntKind.wrap .i64 (y1 + 1)) H [13,12,0,1] []
   have H := zM h3 H
   refine tB_ ?_
   refine gA 1 16 0 ?_
   refine te ?_
   obtain rfl := si H
   have H := Ho2
   dsimp only at H
   exact fF H
  rintro _ H
  have H : (Yf n) = some r := H
  unfold Yf at H
  refine gA 1 16 0 ?_
  exact te (fT H)
 refine tA h1 ?_
 refine gA 1 16 0 ?_
 exact te (fF H)
def Z9 (n : Nat) (x0 : zA) (x1 : zA) : Option (Bool) :=
  (bif (x0.Tk == x1.Tk) then (bif (x0.Pa == x1.Pa) then (bif (x0.Wo == x1.Wo) then (bif (x0.Dr == x1.Dr) then (some (x0.Ve == x1.Ve)) else (some false)) else (some false)) else (some false)) else (some false))
def qk (n : Nat) : Nat → zA → zA → Int → Option ((Unit) ⊕ (Bool))
  | 0,_,_,_ => none
  | mo5 + 1,x0,x1,y4 => (bif (decide (y4 < (x0.F.length : Int))) then ((idx x0.F y4).bind fun v6 => ((idx x1.F y4).bind fun v7 => (bif (!((v6.Tag == v7.Tag) && ((v6.Mac == v7.Mac) && ((v6.Port == v7.Port) && ((v6.Age == v7.Age) && ((v6.Sc == v7.Sc) && true)))))) then (some (Sum.inr false)) else (qk n mo5 x0 x1 (IntKind.wrap .i64 (y4 + 1)))))) else (some (Sum.inl ())))
def Z8 (n : Nat) (x0 : zA) (x1 : zA) : Option (Bool) :=
  ((qk n n x0 x1 0).bind fun o => match o with | .inl _ => (Z9 n x0 x1) | .inr r => some r)
def ql (n : Nat) : Nat → zA → zA → Int → Option ((Unit) ⊕ (Bool))
  | 0,_,_,_ => none
  | mo8 + 1,x0,x1,y3 => (bif (decide (y3 < (x0.Ps.length : Int))) then ((idx x0.Ps y3).bind fun v9 => ((idx x1.Ps y3).bind fun v10 => (bif (!((v9.Up == v10.Up) && ((v9.Co == v10.Co) && ((v9.Has == v10.Has) && (((v9.Hd.Root == v10.Hd.Root) && ((v9.Hd.Co == v10.Hd.Co) && ((v9.Hd.Hops == v10.Hd.Hops) && ((v9.Hd.Bridge == v10.Hd.Bridge) && ((v9.Hd.Port == v10.Hd.Port) && true))))) && true))))) then (some (Sum.inr false)) else (ql n mo8 x0 x1 (IntKind.wrap .i64 (y3 + 1)))))) else (some (Sum.inl ())))
def Qi (n : Nat) (x0 : zA) (x1 : zA) : Option (Bool) :=
  (bif (x0.Id != x1.Id) then (some false) else (bif (!(x0.Name.toList == x1.Name.toList)) then (some false) else (bif ((x0.Ps.length : Int) != (x1.Ps.length : Int)) then (some false) else (bif ((x0.F.length : Int) != (x1.F.length : Int)) then (some false) else ((Q5 n x0.V.Rows x1.V.Rows).bind fun r1 => (bif (!r1) then (some false) else ((YN n x0.V.Pv x1.V.Pv).bind fun r2 => (bif (!r2) then (some false) else ((ql n n x0 x1 0).bind fun o => match o with | .inl _ => (Z8 n x0 x1) | .inr r => some r)))))))))
theorem zEh (n : Nat) (x0 : zA) (x1 : zA) (r : Bool) (H : Qi n x0 x1 = some r) : zK Try.prog 21 [.val true (CV.frzRow (zA.row x0)),.val true (CV.frzRow (zA.row x1))] [.val false [.lit (.bool r)]] [] := by
 refine cW Try.func21 (fun g d => sl [g 0,sl [g 1] (cn 56 (sl [g 2] .ret) .skip),sl [g 3] (.block 0 (.loop (sl [g 4,cn 61 .skip (.exit 0),.block 1 (sl [g 5,d 6] (cn 73 (sl [g 7] .ret) .skip))] (g 8)))),sl [g 9] (.block 2 (.loop (sl [g 10,cn 79 .skip (.exit 2),.block 3 (sl [g 11,d 12] (cn 91 (sl [g 13] .ret) .skip))] (g 14)))),g 15] .ret) [.tmp 4] fun cx => ?_
 unfold Qi at H
 refine gA 3 12 12 ?_
 refine tS ?_
 refine rA 6 ?_
 refine sL 4108 12 ⟨126,0,[sB 12 (x0.Id != x1.Id),sA 3 3 11 0,sA 2 2 11 0],[(3,(CV.frzRow (zA.row x1))),(2,(CV.frzRow (zA.row x0)))]⟩ ?_
 cases h1 : (x0.Id != x1.Id)
 ·have H := zL h1 H
  refine lA 7 ?_
  refine sL 524300 12 ⟨126,0,[sB 19 (!(x0.Name.toList == x1.Name.toList)),sA 3 3 11 0,sA 2 2 11 0],[(3,(CV.frzRow (zA.row x1))),(2,(CV.frzRow (zA.row x0)))]⟩ ?_
  cases h2 : (!(x0.Name.toList == x1.Name.toList))
  ·have H := zL h2 H
   refine lA 2 ?_
   refine kF x0.Ps Pt.row ?_
   refine lA 2 ?_
   refine kF x1.Ps Pt.row ?_
   refine lA 3 ?_
   refine sL 268435468 12 ⟨126,0,[sB 28 ((x0.Ps.length : Int) != (x1.Ps.length : Int)),sA 3 3 11 0,sA 2 2 11 0],[(3,(CV.frzRow (zA.row x1))),(2,(CV.frzRow (zA.row x0)))]⟩ ?_
   cases h3 : ((x0.Ps.length : Int) != (x1.Ps.length : Int))
   ·have H := zL h3 H
    refine lA 2 ?_
    refine kF x0.F zB.row ?_
    refine lA 2 ?_
    refine kF x1.F zB.row ?_
    refine lA 3 ?_
    refine sL 137438953484 12 ⟨126,0,[sB 37 ((x0.F.length : Int) != (x1.F.length : Int)),sA 3 3 11 0,sA 2 2 11 0],[(3,(CV.frzRow (zA.row x1))),(2,(CV.frzRow (zA.row x0)))]⟩ ?_
    cases h4 : ((x0.F.length : Int) != (x1.F.length : Int))
    ·have H := zL h4 H
     refine lA 6 ?_
     obtain ⟨r1,er1,H⟩ := bs H
     refine vA [.rd,.rd] (zF5 n x0.V.Rows x1.V.Rows r1 er1) ?_
     refine lA 3 ?_
     refine sL 0x80000000000c 12 ⟨126,0,[sB 47 (!r1),sA 3 3 11 0,sA 2 2 11 0],[(3,(CV.frzRow (zA.row x1))),(2,(CV.frzRow (zA.row x0)))]⟩ ?_
     cases h5 : (!r1)
     ·have H := zL h5 H
      refine lA 6 ?_
      obtain ⟨r2,er2,H⟩ := bs H
      refine vA [.rd,.rd] (zGU n x0.V.Pv x1.V.Pv r2 er2) ?_
      refine uA 2 72057594037927948 12 ?_
      obtain ⟨h6,H⟩ | ⟨h6,H⟩ := bC H
      ·refine nA h6 ?_
       refine tK ?_
       refine tS ?_
       refine rA 2 ?_
       refine kF x0.Ps Pt.row ?_
       refine uA 1 0x180000000000000c 12 ?_
       obtain ⟨o8,eo8,Ho8⟩ := bs H
       clear H
       refine Tr.mid (ι := Unit) (fun v => ⟨126,0,[sA 3 3 11 0,sA 2 2 11 0],[(3,(CV.frzRow (zA.row x1))),(2,(CV.frzRow (zA.row x0)))]⟩) (fun v => Z8 n x0 x1 = some r) ?_ ?_
       ·refine tB ?_
        refine Tr.loop (ι := Nat × (Int)) (fun v => ⟨126,0,[sI 60 v.2,sI 59 (x0.Ps.length : Int),sA 3 3 11 0,sA 2 2 11 0],[(3,(CV.frzRow (zA.row x1))),(2,(CV.frzRow (zA.row x0)))]⟩) (fun v => ql n v.1 x0 x1 v.2 = some o8) (fun v => v.1) (n,0) eo8 (St.sub_of [60,59,3,2] [3,2] kr) ?_
        rintro ⟨mo8,y3⟩ H
        have H : ql n mo8 x0 x1 y3 = some o8 := H
        obtain _ | mo8 := mo8
        ·exact nN H
        rw [ql] at H
        refine gA 1 0x380000000000000c 12 ?_
        refine tS ?_
        obtain ⟨h13,H⟩ | ⟨h13,H⟩ := bC H
        ·refine nA h13 ?_
         refine Tr.exit ?_
         refine aJ ?_
         obtain rfl := si H
         have H := Ho8
         dsimp only at H
         exact jA () H [3,2] [3,2]
        refine tA h13 ?_
        refine tK ?_
        refine tS ?_
        refine tB ?_
        refine gA 2 0x180000000000002c 12 ?_
        obtain ⟨v9,ev9,H⟩ := bs H
        obtain ⟨v10,ev10,H⟩ := bs H
        refine Tr.draws mixed 11 kr ⟨126,0,[sB 73 (!((v9.Up == v10.Up) && ((v9.Co == v10.Co) && ((v9.Has == v10.Has) && (((v9.Hd.Root == v10.Hd.Root) && ((v9.Hd.Co == v10.Hd.Co) && ((v9.Hd.Hops == v10.Hd.Hops) && ((v9.Hd.Bridge == v10.Hd.Bridge) && ((v9.Hd.Port == v10.Hd.Port) && true))))) && true))))),sI 60 y3,sI 59 (x0.Ps.length : Int),sA 3 3 11 0,sA 2 2 11 0],[(3,(CV.frzRow (zA.row x1))),(2,(CV.frzRow (zA.row x0)))]⟩ (fun cx => ?_) ?_
        ·refine aA [(0,[]),(1,[10]),(2,[])] 8 [⟨[10],35,63,64⟩] fun cx => ?_
         refine aI tOk 3 35 0 64 65 66 none ⟨(.box 2),[(0,0)],2,false,8,(CV.frzEs (x0.Ps.map Pt.row))⟩ y3 (Pt.row v9) _ kr kr kr kr kr kr rfl (Qb ev9) rfl (fun cx => ?_)
         refine aA [(4,[]),(5,[]),(6,[10]),(7,[])] 3 [⟨[10],35,68,69⟩,⟨[10],35,63,64⟩] fun cx => ?_
         refine aI tOk 8 35 0 69 70 71 none ⟨(.box 3),[(0,0)],2,false,8,(CV.frzEs (x1.Ps.map Pt.row))⟩ y3 (Pt.row v10) _ kr kr kr kr kr kr rfl (Qb ev10) rfl (fun cx => ?_)
         refine aA [(9,[])] 1 [⟨[10],35,68,69⟩,⟨[10],35,63,64⟩] fun cx => ?_
         refine bA 10 ?_
         refine LAt.eqSG true (t := 55) (ty := 55) (ty' := 4) (x := (.tmp 67)) (y := (.tmp 72)) (d := 73) (g := none) ((v9.Up == v10.Up) && ((v9.Co == v10.Co) && ((v9.Has == v10.Has) && (((v9.Hd.Root == v10.Hd.Root) && ((v9.Hd.Co == v10.Hd.Co) && ((v9.Hd.Hops == v10.Hd.Hops) && ((v9.Hd.Bridge == v10.Hd.Bridge) && ((v9.Hd.Port == v10.Hd.Port) && true))))) && true)))) _ kr kr kr kr rfl ?_
         refine fA ?_
         exact eE [73,60,59,3,2] [3,2]
        refine sT ⟨126,0,[sB 73 (!((v9.Up == v10.Up) && ((v9.Co == v10.Co) && ((v9.Has == v10.Has) && (((v9.Hd.Root == v10.Hd.Root) && ((v9.Hd.Co == v10.Hd.Co) && ((v9.Hd.Hops == v10.Hd.Hops) && ((v9.Hd.Bridge == v10.Hd.Bridge) && ((v9.Hd.Port == v10.Hd.Port) && true))))) && true))))),sI 60 y3,sI 59 (x0.Ps.length : Int),sA 3 3 11 0,sA 2 2 11 0],[(3,(CV.frzRow (zA.row x1))),(2,(CV.frzRow (zA.row x0)))]⟩ ?_
        cases h14 : (!((v9.Up == v10.Up) && ((v9.Co == v10.Co) && ((v9.Has == v10.Has) && (((v9.Hd.Root == v10.Hd.Root) && ((v9.Hd.Co == v10.Hd.Co) && ((v9.Hd.Hops == v10.Hd.Hops) && ((v9.Hd.Bridge == v10.Hd.Bridge) && ((v9.Hd.Port == v10.Hd.Port) && true))))) && true)))))
        ·have H := zL h14 H
         refine nB_ ?_
         refine tK ?_
         refine eA 2 0x180000000000000c 12 ?_
         exact jB mo8 (IntKind.wrap .i64 (y3 + 1)) H [60,59,3,2] [3,2]
        have H := zM h14 H
        refine tB_ ?_
        refine gA 1 16 0 ?_
        refine te ?_
        obtain rfl := si H
        have H := Ho8
        dsimp only at H
        exact fF H
       rintro _ H
       have H : (Z8 n x0 x1) = some r := H
       unfold Z8 at H
       refine tS ?_
       refine rA 2 ?_
       refine kF x0.F zB.row ?_
       refine uA 1 0x6000000000000000000c 12 ?_
       obtain ⟨o5,eo5,Ho5⟩ := bs H
       clear H
       refine Tr.mid (ι := Unit) (fun v => ⟨126,0,[sA 3 3 11 0,sA 2 2 11 0],[(3,(CV.frzRow (zA.row x1))),(2,(CV.frzRow (zA.row x0)))]⟩) (fun v => Z9 n x0 x1 = some r) ?_ ?_
       ·refine tB ?_
        refine Tr.loop (ι := Nat × (Int)) (fun v => ⟨126,0,[sI 78 v.2,sI 77 (x0.F.length : Int),sA 3 3 11 0,sA 2 2 11 0],[(3,(CV.frzRow (zA.row x1))),(2,(CV.frzRow (zA.row x0)))]⟩) (fun v => qk n v.1 x0 x1 v.2 = some o5) (fun v => v.1) (n,0) eo5 (St.sub_of [78,77,3,2] [3,2] kr) ?_
        rintro ⟨mo5,y4⟩ H
        have H : qk n mo5 x0 x1 y4 = some o5 := H
        obtain _ | mo5 := mo5
        ·exact nN H
        rw [qk] at H
        refine gA 1 0xe000000000000000000c 12 ?_
        refine tS ?_
        obtain ⟨h11,H⟩ | ⟨h11,H⟩ := bC H
        ·refine nA h11 ?_
         refine Tr.exit ?_
         refine aJ ?_
         obtain rfl := si H
         have H := Ho5
         dsimp only at H
         exact jA () H [3,2] [3,2]
        refine tA h11 ?_
        refine tK ?_
        refine tS ?_
        refine tB ?_
        refine gA 2 0x6000000000000000004c 12 ?_
        obtain ⟨v6,ev6,H⟩ := bs H
        obtain ⟨v7,ev7,H⟩ := bs H
        refine Tr.draws mixed 11 kr ⟨126,0,[sB 91 (!((v6.Tag == v7.Tag) && ((v6.Mac == v7.Mac) && ((v6.Port == v7.Port) && ((v6.Age == v7.Age) && ((v6.Sc == v7.Sc) && true)))))),sI 78 y4,sI 77 (x0.F.length : Int),sA 3 3 11 0,sA 2 2 11 0],[(3,(CV.frzRow (zA.row x1))),(2,(CV.frzRow (zA.row x0)))]⟩ (fun cx => ?_) ?_
        ·refine aA [(0,[]),(1,[10]),(2,[])] 8 [⟨[10],36,81,82⟩] fun cx => ?_
         refine aI tOk 3 36 0 82 83 84 none ⟨(.box 2),[(0,0)],3,false,5,(CV.frzEs (x0.F.map zB.row))⟩ y4 (zB.row v6) _ kr kr kr kr kr kr rfl (Qb ev6) rfl (fun cx => ?_)
         refine aA [(4,[]),(5,[]),(6,[10]),(7,[])] 3 [⟨[10],36,86,87⟩,⟨[10],36,81,82⟩] fun cx => ?_
         refine aI tOk 8 36 0 87 88 89 none ⟨(.box 3),[(0,0)],3,false,5,(CV.frzEs (x1.F.map zB.row))⟩ y4 (zB.row v7) _ kr kr kr kr kr kr rfl (Qb ev7) rfl (fun cx => ?_)
         refine aA [(9,[])] 1 [⟨[10],36,86,87⟩,⟨[10],36,81,82⟩] fun cx => ?_
         refine bA 10 ?_
         refine LAt.eqSG true (t := 60) (ty := 60) (ty' := 4) (x := (.tmp 85)) (y := (.tmp 90)) (d := 91) (g := none) ((v6.Tag == v7.Tag) && ((v6.Mac == v7.Mac) && ((v6.Port == v7.Port) && ((v6.Age == v7.Age) && ((v6.Sc == v7.Sc) && true))))) _ kr kr kr kr rfl ?_
         refine fA ?_
         exact eE [91,78,77,3,2] [3,2]
        refine sT ⟨126,0,[sB 91 (!((v6.Tag == v7.Tag) && ((v6.Mac == v7.Mac) && ((v6.Port == v7.Port) && ((v6.Age == v7.Age) && ((v6.Sc == v7.Sc) && true)))))),sI 78 y4,sI 77 (x0.F.length : Int),sA 3 3 11 0,sA 2 2 11 0],[(3,(CV.frzRow (zA.row x1))),(2,(CV.frzRow (zA.row x0)))]⟩ ?_
        cases h12 : (!((v6.Tag == v7.Tag) && ((v6.Mac == v7.Mac) && ((v6.Port == v7.Port) && ((v6.Age == v7.Age) && ((v6.Sc == v7.Sc) && true))))))
        ·have H := zL h12 H
         refine nB_ ?_
         refine tK ?_
         refine eA 2 0x6000000000000000000c 12 ?_
         exact jB mo5 (IntKind.wrap .i64 (y4 + 1)) H [78,77,3,2] [3,2]
        have H := zM h12 H
        refine tB_ ?_
        refine gA 1 16 0 ?_
        refine te ?_
        obtain rfl := si H
        have H := Ho5
        dsimp only at H
        exact fF H
       rintro _ H
       have H : (Z9 n x0 x1) = some r := H
       unfold Z9 at H
       refine rA 6 ?_
       refine sL 0x400000000000000000000000c 12 ⟨126,0,[sB 98 (x0.Tk == x1.Tk),sA 3 3 11 0,sA 2 2 11 0],[(3,(CV.frzRow (zA.row x1))),(2,(CV.frzRow (zA.row x0)))]⟩ ?_
       cases h7 : (x0.Tk == x1.Tk)
       ·have H := zL h7 H
        refine uA 28 16 0 ?_
        exact te (fF H)
       have H := zM h7 H
       refine lA 7 ?_
       refine sL 0x20000000000000000000000000c 12 ⟨126,0,[sB 105 (x0.Pa == x1.Pa),sA 3 3 11 0,sA 2 2 11 0],[(3,(CV.frzRow (zA.row x1))),(2,(CV.frzRow (zA.row x0)))]⟩ ?_
       cases h8 : (x0.Pa == x1.Pa)
       ·have H := zL h8 H
        refine uA 21 16 0 ?_
        exact te (fF H)
       have H := zM h8 H
       refine lA 7 ?_
       refine sL 0x1000000000000000000000000000c 12 ⟨126,0,[sB 112 (x0.Wo == x1.Wo),sA 3 3 11 0,sA 2 2 11 0],[(3,(CV.frzRow (zA.row x1))),(2,(CV.frzRow (zA.row x0)))]⟩ ?_
       cases h9 : (x0.Wo == x1.Wo)
       ·have H := zL h9 H
        refine uA 14 16 0 ?_
        exact te (fF H)
       have H := zM h9 H
       refine lA 7 ?_
       refine sL 0x80000000000000000000000000000c 12 ⟨126,0,[sB 119 (x0.Dr == x1.Dr),sA 3 3 11 0,sA 2 2 11 0],[(3,(CV.frzRow (zA.row x1))),(2,(CV.frzRow (zA.row x0)))]⟩ ?_
       cases h10 : (x0.Dr == x1.Dr)
       ·have H := zL h10 H
        refine uA 7 16 0 ?_
        exact te (fF H)
       have H := zM h10 H
       refine uA 7 16 0 ?_
       exact te (fJ [(false,[cB (x0.Ve == x1.Ve)])] H)
      refine tA h6 ?_
      refine gA 1 16 0 ?_
      exact te (fF H)
     have H := zM h5 H
     refine uA 9 72057594037927948 12 ?_
     refine tB_ ?_
     refine gA 1 16 0 ?_
     exact te (fF H)
    have H := zM h4 H
    refine uA 19 72057594037927948 12 ?_
    refine tB_ ?_
    refine gA 1 16 0 ?_
    exact te (fF H)
   have H := zM h3 H
   refine uA 28 72057594037927948 12 ?_
   refine tB_ ?_
   refine gA 1 16 0 ?_
   exact te (fF H)
  have H := zM h2 H
  refine uA 37 72057594037927948 12 ?_
  refine tB_ ?_
  refine gA 1 16 0 ?_
  exact te (fF H)
 have H := zM h1 H
 refine uA 44 72057594037927948 12 ?_
 refine tB_ ?_
 refine gA 1 16 0 ?_
 exact te (fF H)
def QA (n : Nat) (x0 : Int) (x1 : Int) : Option (Bool) :=
  (bif (decide (x1 ≥ 0)) then (bif (decide (x1 < 8)) then (bif (decide ((0 : Int) ≤ (IntKind.wrap .u64 x1))) then (some ((IntKind.wrap .i64 (BitVec.ofInt (IntKind.bits .i64) (Int.fdiv x0 (2 ^ min (((IntKind.wrap .u64 x1) : Int)).toNat (IntKind.bits .i64))) &&& BitVec.ofInt (IntKind.bits .i64) 1).toNat) == 1)) else none) else (some false)) else (some false))
theorem zGb (n : Nat) (x0 : Int) (x1 : Int) (r : Bool) (H : QA n x0 x1 = some r) : zK Try.prog 23 [.val false [.lit (.int .i64 x0)],.val false [.lit (.int .i64 x1)]] [.val false [.lit (.bool r)]] [] := by
 refine cW Try.func23 (fun g d => sl [g 0,g 1] .ret) [.tmp 4] fun cx => ?_
 unfold QA at H
 refine gA 1 3 0 ?_
 refine rA 3 ?_
 refine sL 131 0 ⟨19,0,[sB 7 (decide (x1 ≥ 0)),sI 0 x0,sI 1 x1],[]⟩ ?_
 cases h1 : (decide (x1 ≥ 0))
 ·have H := zL h1 H
  refine uA 12 16 0 ?_
  exact te (fF H)
 have H := zM h1 H
 refine lA 4 ?_
 refine sL 2051 0 ⟨19,0,[sB 11 (decide (x1 < 8)),sI 0 x0,sI 1 x1],[]⟩ ?_
 cases h2 : (decide (x1 < 8))
 ·have H := zL h2 H
  refine uA 8 16 0 ?_
  exact te (fF H)
 have H := zM h2 H
 refine lA 3 ?_
 obtain ⟨hg1,H⟩ := gs H
 refine LAt.binC tOk (op := .shr) (t := 3) (ty := 103) (ty' := 3) (x := (.tmp 12)) (y := (.tmp 14)) (d := 15) (g := (some (6,true))) (.int .i64 x0) (.int .u64 (IntKind.wrap .u64 x1)) (.int .i64 (Int.fdiv x0 (2 ^ min (((IntKind.wrap .u64 x1) : Int)).toNat (IntKind.bits .i64)))) _ kr kr kr kr kr (φ := (0 : Int) ≤ (IntKind.wrap .u64 x1)) kr (of_decide_eq_true hg1) rfl ?_
 refine uA 4 16 0 ?_
 exact te (fJ [(false,[cB ((IntKind.wrap .i64 (BitVec.ofInt (IntKind.bits .i64) (Int.fdiv x0 (2 ^ min (((IntKind.wrap .u64 x1) : Int)).toNat (IntKind.bits .i64))) &&& BitVec.ofInt (IntKind.bits .i64) 1).toNat) == 1)])] H)
end Go.Proofs.Ytajadnlejdpceaa.Tw
