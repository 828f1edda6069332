import Derived.Test.YtajadnlejdpceaaProg
import Derived.Test.YtajadnlejdpceaaTlRule
import Derived.Test.YtajadnlejdpceaaTlU16
import Derived.Test.YtajadnlejdpceaaTwTW1
import Derived.WalkKit
set_option linter.unusedVariables false
set_option linter.unusedSimpArgs false
set_option maxRecDepth 100000
set_option maxHeartbeats 1000000
namespace Go.Proofs.Ytajadnlejdpceaa.Tw
open Go Go.TL Go.Proofs
def Yn (n : Nat) : Option (Bool) :=
  (some true)
def Qo (n : Nat) (k : (Int → Option ((Unit) ⊕ (Bool)))) (r2 : Net × (List Event)) (r5 : Int) (r6 : Int) (y3 : Int) (y9 : Int) : Option ((Unit) ⊕ (Bool)) :=
  ((idx r2.1.Bs y3).bind fun v10 => (bif (r6 == v10.Id) then (bif (r5 != 0) then (some (Sum.inr false)) else (bif (r6 != v10.Id) then (bif (r5 != y9) then (some (Sum.inr false)) else (bif (decide (r6 > v10.Id)) then (some (Sum.inr false)) else (bif (r6 == 0) then (some (Sum.inr false)) else (k (IntKind.wrap .i64 (y3 + 1)))))) else (bif (decide (r6 > v10.Id)) then (some (Sum.inr false)) else (bif (r6 == 0) then (some (Sum.inr false)) else (k (IntKind.wrap .i64 (y3 + 1))))))) else (bif (r6 != v10.Id) then (bif (r5 != y9) then (some (Sum.inr false)) else (bif (decide (r6 > v10.Id)) then (some (Sum.inr false)) else (bif (r6 == 0) then (some (Sum.inr false)) else (k (IntKind.wrap .i64 (y3 + 1)))))) else (bif (decide (r6 > v10.Id)) then (some (Sum.inr false)) else (bif (r6 == 0) then (some (Sum.inr false)) else (k (IntKind.wrap .i64 (y3 + 1))))))))
def Za (n : Nat) (k : (Int × Int → Option ((Int) ⊕ (Bool)))) (r13 : Int × Int × Bool) (r2 : Net × (List Event)) (r6 : Int) (y7 : Int) (y16 : Int) : Option ((Int) ⊕ (Bool)) :=
  ((q8 n r2.1 r13.1).bind fun r17 => (bif (r17 != r6) then (some (Sum.inr false)) else (k ((IntKind.wrap .i64 (y7 + 1)),y16))))
def z7 (n : Nat) : Nat → Net × (List Event) → Int → Int → Int → Int → Option ((Int) ⊕ (Bool))
  | 0,_,_,_,_,_ => none
  | mo11 + 1,r2,r6,y3,y7,y8 => ((idx r2.1.Bs y3).bind fun v12 => (bif (decide (y7 < (v12.Ps.length : Int))) then ((Jv n r2.1 y3 y7).bind fun r13 => (bif (!r13.2.2) then (z7 n mo11 r2 r6 y3 (IntKind.wrap .i64 (y7 + 1)) y8) else ((idx v12.Ps y7).bind fun v14 => (bif (!v14.Up) then (z7 n mo11 r2 r6 y3 (IntKind.wrap .i64 (y7 + 1)) y8) else ((q7 n r2.1 r13.1).bind fun r15 => (bif (decide (y8 < 0)) then (Za n (fun v => z7 n mo11 r2 r6 y3 v.1 v.2) r13 r2 r6 y7 (IntKind.wrap .i64 (r15 + v14.Co))) else (bif (decide ((IntKind.wrap .i64 (r15 + v14.Co)) < y8)) then (Za n (fun v => z7 n mo11 r2 r6 y3 v.1 v.2) r13 r2 r6 y7 (IntKind.wrap .i64 (r15 + v14.Co))) else (Za n (fun v => z7 n mo11 r2 r6 y3 v.1 v.2) r13 r2 r6 y7 y8)))))))) else (some (Sum.inl y8))))
def qj (n : Nat) : Nat → Net × (List Event) → Int → Option ((Unit) ⊕ (Bool))
  | 0,_,_ => none
  | mo4 + 1,r2,y3 => (bif (decide (y3 < (r2.1.Bs.length : Int))) then ((q7 n r2.1 y3).bind fun r5 => ((q8 n r2.1 y3).bind fun r6 => ((z7 n n r2 r6 y3 0 (-1)).bind fun o => match o with | .inl y9 => (Qo n (fun v => qj n mo4 r2 v) r2 r5 r6 y3 y9) | .inr r => some (Sum.inr r)))) else (some (Sum.inl ())))
def JU (n : Nat) (x0 : (List Int)) : Option (Bool) :=
  ((zDN n x0).bind fun r1 => (bif r1 then (some true) else ((JZ n x0).bind fun r2 => ((qj n n r2 0).bind fun o => match o with | .inl _ => (Yn n) | .inr r => some r))))
def zM2 : Tab := ⟨15,[0,0,3,0,8,0,48,64,128,0,768,1024,2048,4100,16383],[0,0,3,0,8,0,48,64,128,0,768,1024,2048,4100,8192],[0,0,3,0,8,0,56,120,248,0,1016,2040,4088,8191,16383]⟩
theorem QP : zk (rg Try.f6 15) zM2 = true := kr
theorem zFE (n : Nat) (r2 : Net × (List Event)) (r13 : Int × Int × Bool) (r15 : Int) (y3 : Int) (v12 : zA) (y7 : Int) (v14 : Pt) (y8 : Int) (r6 : Int) (r5 : Int) (ev12 : (idx r2.1.Bs y3) = some v12) (er15 : (q7 n r2.1 r13.1) = some r15) (ev14 : (idx v12.Ps y7) = some v14) (cx : Cx) : AT Try.prog cx (rg Try.f6 15) [] 15 [] ⟨136,0,[sB 67 (!v14.Up),sI 10 r13.1,sI 9 y7,sI 8 y8,sI 7 r6,sI 6 r5,sI 5 y3,sA 3 3 3 0],[(3,(Net.row r2.1))]⟩ (fun s => s = ⟨136,0,[sI 13 (wI (r15 + v14.Co)),sI 10 r13.1,sI 9 y7,sI 8 y8,sI 7 r6,sI 6 r5,sI 5 y3,sA 3 3 3 0],[(3,(Net.row r2.1))]⟩) := by
 refine mA QP ([(0,[2])]++zl [1,3,4,5]) 10 [⟨[],53,71,72⟩,⟨[2],76,3,68⟩] fun cx=>oN QP 6 zA.row ev12 fun cx=>mA QP [(7,[]),(9,[])] 7 [⟨[],53,71,72⟩,⟨[2],76,3,68⟩] fun cx=>mB2 tOk QP 2 8 kr (And.intro kr ?_) (And.intro kr ?_)
 ·exact vB [.rd,.rd] [.box 3] (JY n r2.1 r13.1 r15 er15) (.inr (qF (zE zI z5) qe))<|fA<|mC QP 8<|dE (tI 35) (.box 3) [(0,0),(0,(y3.toNat))] 11 2 [.sl true 3 [(Net.row r2.1)]] (zA.row v12) (zK rfl (zF ev12).2)<|fA<|mC QP 10<|LAt.indexD tOk (t := 35) (ty := 0) (et := 55) (x := (.tmp 76)) (y := (.tmp 77)) (d := 78) (g := none) (tI 55) ⟨(.box 3),[(0,0),(0,(y3.toNat))],2,true,8,(v12.Ps.map Pt.row)⟩ .i64 y7 (y7.toNat) (Pt.row v14) kr kr kr kr kr kr kr (zBA (row := [.sl true 3 [(Net.row r2.1)]]) (e := zA.row v12) kr kr (zK rfl (zF ev12).2) rfl rfl) rfl kr (YD ev14) rfl<|fA<|mA QP [(11,[])] 3 [⟨[],53,71,72⟩,⟨[2],76,3,68⟩] fun cx=>mC QP 12<|dE (tI 3) (.box 3) [(0,0),(0,(y3.toNat)),(2,(y7.toNat))] 8 1 [.sl true 3 [(Net.row r2.1)]] (Pt.row v14) (zB2 rfl (zF ev12).2 rfl (zF ev14).2)<|fA<|mA QP [(13,[]),(14,[])] 0 [⟨[],53,71,72⟩,⟨[2],76,3,68⟩] fun cx=>mE QP [13,10,9,8,7,6,5,3] [3]
 ·refine dE (tI 35) (.box 3) [(0,0),(0,(y3.toNat))] 11 2 [.sl true 3 [(Net.row r2.1)]] (zA.row v12) (zK rfl (zF ev12).2)<|fA<|mB2 tOk QP 2 10 kr (And.intro kr ?_) (And.intro kr ?_)
  ·exact vB [.rd,.rd] [.box 3] (JY n r2.1 r13.1 r15 er15) (.inr (qF (zE zI z5) qe))<|fA<|mC QP 10<|LAt.indexD tOk (t := 35) (ty := 0) (et := 55) (x := (.tmp 76)) (y := (.tmp 77)) (d := 78) (g := none) (tI 55) ⟨(.box 3),[(0,0),(0,(y3.toNat))],2,true,8,(v12.Ps.map Pt.row)⟩ .i64 y7 (y7.toNat) (Pt.row v14) kr kr kr kr kr kr kr (zBA (row := [.sl true 3 [(Net.row r2.1)]]) (e := zA.row v12) kr kr (zK rfl (zF ev12).2) rfl rfl) rfl kr (YD ev14) rfl<|fA<|mA QP [(11,[])] 3 [⟨[],53,71,72⟩,⟨[2],76,3,68⟩] fun cx=>mC QP 12<|dE (tI 3) (.box 3) [(0,0),(0,(y3.toNat)),(2,(y7.toNat))] 8 1 [.sl true 3 [(Net.row r2.1)]] (Pt.row v14) (zB2 rfl (zF ev12).2 rfl (zF ev14).2)<|fA<|mA QP [(13,[]),(14,[])] 0 [⟨[],53,71,72⟩,⟨[2],76,3,68⟩] fun cx=>mE QP [13,10,9,8,7,6,5,3] [3]
  ·refine LAt.indexD tOk (t := 35) (ty := 0) (et := 55) (x := (.tmp 76)) (y := (.tmp 77)) (d := 78) (g := none) (tI 55) ⟨(.box 3),[(0,0),(0,(y3.toNat))],2,true,8,(v12.Ps.map Pt.row)⟩ .i64 y7 (y7.toNat) (Pt.row v14) kr kr kr kr kr kr kr (zBA (row := [.sl true 3 [(Net.row r2.1)]]) (e := zA.row v12) kr kr (zK rfl (zF ev12).2) rfl rfl) rfl kr (YD ev14) rfl<|fA<|mA QP [(11,[])] 4 [⟨[],53,71,72⟩,⟨[2],76,3,68⟩] fun cx=>mB2 tOk QP 2 12 kr (And.intro kr ?_) (And.intro kr ?_)
   ·exact vB [.rd,.rd] [.box 3] (JY n r2.1 r13.1 r15 er15) (.inr (qF (zE zI z5) qe))<|fA<|mC QP 12<|dE (tI 3) (.box 3) [(0,0),(0,(y3.toNat)),(2,(y7.toNat))] 8 1 [.sl true 3 [(Net.row r2.1)]] (Pt.row v14) (zB2 rfl (zF ev12).2 rfl (zF ev14).2)<|fA<|mA QP [(13,[]),(14,[])] 0 [⟨[],53,71,72⟩,⟨[2],76,3,68⟩] fun cx=>mE QP [13,10,9,8,7,6,5,3] [3]
   ·exact dE (tI 3) (.box 3) [(0,0),(0,(y3.toNat)),(2,(y7.toNat))] 8 1 [.sl true 3 [(Net.row r2.1)]] (Pt.row v14) (zB2 rfl (zF ev12).2 rfl (zF ev14).2)<|fA<|mC QP 2<|vB [.rd,.rd] [.box 3] (JY n r2.1 r13.1 r15 er15) (.inr (qF (zE zI z5) qe))<|fA<|mA QP [(13,[]),(14,[])] 0 [⟨[],53,71,72⟩,⟨[2],76,3,68⟩] fun cx=>mE QP [13,10,9,8,7,6,5,3] [3]
theorem zG6 (n : Nat) (x0 : (List Int)) (r : Bool) (H : JU n x0 = some r) : zG Try.prog 6 [.val false [.sl false 1 (CV.frzEs (x0.map zx))]] [.val false [.lit (.bool r)]] [] := by
 refine cW Try.func6 (fun g d => sl [g 0,sl [g 1] (cn 15 (sl [g 2] .ret) .skip),g 3,sl [g 4] (.block 0 (.loop (sl [sl [g 5] (cn 25 .skip (.exit 0)),.block 1 (sl [g 7,g 8,g 9,sl [g 10] (.block 2 (.loop (sl [sl [g 11] (cn 42 .skip (.exit 2)),.block 3 (sl [g 13,sl [g 14] (cn 67 (.exit 3) .skip),d 15,sl [g 16] (cn 88 (g 17) .skip),g 18] (cn 94 (sl [g 19] .ret) .skip))] (g 12)))),g 20] (cn 135 (sl [g 21] .ret) .skip))] (g 6)))),g 22] .ret) [.tmp 2] fun cx=>?_
 unfold JU at H
 refine gA 1 1 0<|tS<|rA 1<|bE H fun r1 er1 H=> vA [.rd] (zLU n x0 r1 er1)<|dA 32769 0 ?_
 cases h1 : r1
 ·have H := Z6 h1 H
  refine nB_<|tK<|rA 1<|bE H fun r2 er2 H=> vA [.rd] (zJJ n x0 r2 er2)<|LAt.movT tOk (ty := 78) (t := 18) (d := 16) (g := none) [(true,(Net.row r2.1)),(false,[cL 2 r2.2 Event.row])] _ kr (.inl rfl) kr kr kr kr rfl<|lA 4<|LAt.moveU (T := lk tab) (ty := 77) (x := (.tmp 20)) (d := 4) (g := none) false [cL 2 r2.2 Event.row] kr kr kr kr kr<|dA 8 8<|tS<|gA 1 40 8 ?_
  obtain ⟨o4,eo4,Ho4⟩ := bs H
  clear H
  refine Tr.mid (ι := Unit) (fun v => ⟨136,0,[],[]⟩) (fun v => Yn n = some r) ?_ ?_
  ·refine tB<|Tr.loop (ι := Nat × (Int)) (fun v => ⟨136,0,[sI 5 v.2,sA 3 3 3 0],[(3,(Net.row r2.1))]⟩) (fun v => qj n v.1 r2 v.2 = some o4) (fun v => v.1) (n,0) eo4 (St.sub_of [5,3] [3] kr) ?_
   rintro ⟨_ | mo4,y3⟩ H
   ·exact nN H
   have H : qj n (mo4+1) r2 y3 = some o4 := H
   rw [qj] at H
   refine tS<|rA 3<|kO r2.1.Bs zA.row<|uA 1 33554472 8 ?_
   obtain ⟨h2,H⟩ | ⟨h2,H⟩ := bC H
   ·refine nA h2<|Tr.exit<|aJ ?_
    cases H
    exact jA () Ho4 [] []
   refine tA h2<|tK<|tS<|tB<|rA 2<|bE H fun r5 er5 H=> vB [.rd,.rd] [.box 3] (JY n r2.1 y3 r5 er5) (.inr (qF (zE zI z5) qe))<|uA 1 104 8<|rA 2<|bE H fun r6 er6 H=> vB [.rd,.rd] [.box 3] (zEj n r2.1 y3 r6 er6) (.inr (qF (zE zI z5) qe))<|uA 1 232 8<|gA 1 488 8<|tS<|gA 1 1000 8 ?_
   obtain ⟨o11,eo11,Ho11⟩ := bs H
   clear H
   refine Tr.mid (ι := Int) (fun v => ⟨136,0,[sI 8 v,sI 7 r6,sI 6 r5,sI 5 y3,sA 3 3 3 0],[(3,(Net.row r2.1))]⟩) (fun v => Qo n (fun v => qj n mo4 r2 v) r2 r5 r6 y3 v = some o4) ?_ ?_
   ·refine tB<|Tr.loop (ι := Nat × (Int × Int)) (fun v => ⟨136,0,[sI 9 v.2.1,sI 8 v.2.2,sI 7 r6,sI 6 r5,sI 5 y3,sA 3 3 3 0],[(3,(Net.row r2.1))]⟩) (fun v => z7 n v.1 r2 r6 y3 v.2.1 v.2.2 = some o11) (fun v => v.1) (n,(0,(-1))) eo11 (St.sub_of [9,8,7,6,5,3] [3] kr) ?_
    rintro ⟨_ | mo11,y7,y8⟩ H
    ·exact nN H
    have H : z7 n (mo11+1) r2 r6 y3 y7 y8 = some o11 := H
    rw [z7] at H
    refine tS<|rA 4<|bE H fun v12 ev12 H=> oA zA.row ev12<|lA 1<|dE (tI 35) (.box 3) [(0,0),(0,(y3.toNat))] 11 2 [.sl true 3 [(Net.row r2.1)]] (zA.row v12) (zK rfl (zF ev12).2)<|lL tOk 35 3 55 40 41 none ⟨(.box 3),[(0,0),(0,(y3.toNat))],2,true,8,(v12.Ps.map Pt.row)⟩ (v12.Ps).length _ kr kr kr kr (zBA (row := [.sl true 3 [(Net.row r2.1)]]) (e := zA.row v12) kr kr (zK rfl (zF ev12).2) rfl rfl) (zD0 _ _) rfl<|uA 1 4398046512104 8 ?_
    obtain ⟨h17,H⟩ | ⟨h17,H⟩ := bC H
    ·refine nA h17<|Tr.exit<|aJ ?_
     cases H
     exact jA y8 Ho11 [8,7,6,5,3] [3]
    refine tA h17<|tK<|tS<|tB<|rA 3<|bE H fun r13 er13 H=> vB [.rd,.rd,.rd] [.box 3] (zJU n r2.1 y3 y7 r13 er13) (.inr (qF (zE zI z5) (qF (zE zI z5) (qF (zE zI z5) qe))))<|LAt.movT tOk (ty := 81) (t := 49) (d := 45) (g := none) [(false,[cI r13.1]),(false,[cI r13.2.1]),(false,[cB r13.2.2])] _ kr (.inl rfl) kr kr kr kr rfl<|uA 6 6120 8<|tS<|rA 3 ?_
    obtain ⟨h18,H⟩ | ⟨h18,H⟩ := bC H
    ·refine qL 0x800000000007e8 8 [55] h18<|lA 3<|oA zA.row ev12<|lA 1<|dE (tI 35) (.box 3) [(0,0),(0,(y3.toNat))] 11 2 [.sl true 3 [(Net.row r2.1)]] (zA.row v12) (zK rfl (zF ev12).2)<|lA 1<|bE H fun v14 ev14 H=> LAt.indexD tOk (t := 35) (ty := 0) (et := 55) (x := (.tmp 61)) (y := (.tmp 62)) (d := 63) (g := (some (2,false))) (tI 55) ⟨(.box 3),[(0,0),(0,(y3.toNat))],2,true,8,(v12.Ps.map Pt.row)⟩ .i64 y7 (y7.toNat) (Pt.row v14) kr kr kr kr kr kr kr (zBA (row := [.sl true 3 [(Net.row r2.1)]]) (e := zA.row v12) kr kr (zK rfl (zF ev12).2) rfl rfl) rfl kr (YD ev14) rfl<|lA 1<|dE (tI 4) (.box 3) [(0,0),(0,(y3.toNat)),(2,(y7.toNat))] 8 0 [.sl true 3 [(Net.row r2.1)]] (Pt.row v14) (zB2 rfl (zF ev12).2 rfl (zF ev14).2)<|uA 2 0x800000000000007e8 8 ?_
     obtain ⟨h19,H⟩ | ⟨h19,H⟩ := bC H
     ·refine nA h19<|tK<|bE H fun r15 er15 H=> sT ⟨136,0,[sB 67 (!v14.Up),sI 10 r13.1,sI 9 y7,sI 8 y8,sI 7 r6,sI 6 r5,sI 5 y3,sA 3 3 3 0],[(3,(Net.row r2.1))]⟩<|Tr.draws mixed 15 kr ⟨136,0,[sI 13 (wI (r15 + v14.Co)),sI 10 r13.1,sI 9 y7,sI 8 y8,sI 7 r6,sI 6 r5,sI 5 y3,sA 3 3 3 0],[(3,(Net.row r2.1))]⟩ (zFE n r2 r13 r15 y3 v12 y7 v14 y8 r6 r5 ev12 er15 ev14)<|tS<|Tr.mid (ι := Int) (fun v => ⟨136,0,[sI 10 r13.1,sI 9 y7,sI 8 v,sI 7 r6,sI 6 r5,sI 5 y3,sA 3 3 3 0],[(3,(Net.row r2.1))]⟩) (fun v => Za n (fun v => z7 n mo11 r2 r6 y3 v.1 v.2) r13 r2 r6 y7 v = some o11) ?_ ?_
      ·refine rA 3 ?_
       obtain ⟨h21,H⟩ | ⟨h21,H⟩ := bC H
       ·refine qL 0x10000000000000000027e8 8 [84] h21<|uA 4 0x100000000000000000027e8 8 ?_
        obtain ⟨h22,H⟩ | ⟨h22,H⟩ := bC H
        ·exact nA h22<|tK<|jA y8 H [10,9,8,7,6,5,3] [3]
        exact tA h22<|eA 2 2024 8<|jA (wI (r15 + v14.Co)) H [10,9,8,7,6,5,3] [3]
       exact qL 0x10000000000000000027e8 8 [84] h21<|uA 4 0x100000000000000000027e8 8<|tB_<|eA 2 2024 8<|jA (wI (r15 + v14.Co)) H [10,9,8,7,6,5,3] [3]
      rintro y16 H
      have H : (Za n (fun v => z7 n mo11 r2 r6 y3 v.1 v.2) r13 r2 r6 y7 y16) = some o11 := H
      unfold Za at H
      refine rA 2<|bE H fun r17 er17 H=> vB [.rd,.rd] [.box 3] (zEj n r2.1 r13.1 r17 er17) (.inr (qF (zE zI z5) qe))<|uA 2 0x4000000000000000000003e8 8 ?_
      obtain ⟨h20,H⟩ | ⟨h20,H⟩ := bC H
      ·exact nA h20<|tK<|eA 3 1000 8<|jB mo11 ((wI (y7 + 1)),y16) H [9,8,7,6,5,3] [3]
      refine tA h20<|gA 1 4 0<|te ?_
      obtain rfl := si H
      have H := Ho11
      dsimp only at H
      cases H
      exact fF Ho4
     exact tA h19<|Tr.exit<|aJ<|eA 3 1000 8<|jB mo11 ((wI (y7 + 1)),y8) H [9,8,7,6,5,3] [3]
    exact qL 0x800000000007e8 8 [55] h18<|uA 12 0x800000000000007e8 8<|tB_<|Tr.exit<|aJ<|eA 3 1000 8<|jB mo11 ((wI (y7 + 1)),y8) H [9,8,7,6,5,3] [3]
   rintro y9 H
   have H : (Qo n (fun v => qj n mo4 r2 v) r2 r5 r6 y3 y9) = some o4 := H
   unfold Qo at H
   refine rA 4<|bE H fun v10 ev10 H=> oA zA.row ev10<|lA 1<|dE (tI 3) (.box 3) [(0,0),(0,(y3.toNat))] 11 0 [.sl true 3 [(Net.row r2.1)]] (zA.row v10) (zK rfl (zF ev10).2)<|lA 2 ?_
   obtain ⟨h3,H⟩ | ⟨h3,H⟩ := bC H
   ·refine qL 0x800000000000000000000001e8 8 [103] h3<|lA 8<|oA zA.row ev10<|lA 1<|dE (tI 3) (.box 3) [(0,0),(0,(y3.toNat))] 11 0 [.sl true 3 [(Net.row r2.1)]] (zA.row v10) (zK rfl (zF ev10).2)<|lA 2 ?_
    obtain ⟨h4,H⟩ | ⟨h4,H⟩ := bC H
    ·refine qL 0x1008000000000000000000000001e8 8 [116] h4<|lA 10<|oA zA.row ev10<|lA 1<|dE (tI 3) (.box 3) [(0,0),(0,(y3.toNat))] 11 0 [.sl true 3 [(Net.row r2.1)]] (zA.row v10) (zK rfl (zF ev10).2)<|lA 3 ?_
     obtain ⟨h5,H⟩ | ⟨h5,H⟩ := bC H
     ·refine qL 0x10000000000000000000000000000000a8 8 [132] h5<|uA 3 0x8000000000000000000000000000000028 8 ?_
      obtain ⟨h6,H⟩ | ⟨h6,H⟩ := bC H
      ·exact nA h6<|tK<|eA 3 40 8<|jB mo4 (wI (y3 + 1)) H [5,3] [3]
      refine tA h6<|gA 1 4 0<|te ?_
      cases H
      exact fF Ho4
     refine qL 0x10000000000000000000000000000000a8 8 [132] h5<|uA 3 0x8000000000000000000000000000000028 8<|tB_<|gA 1 4 0<|te ?_
     cases H
     exact fF Ho4
    refine qL 0x1008000000000000000000000001e8 8 [116] h4<|lA 6 ?_
    obtain ⟨h7,H⟩ | ⟨h7,H⟩ := bC H
    ·refine qL 0x40000000000000000000000000000a8 8 [122] h7<|lA 4<|oA zA.row ev10<|lA 1<|dE (tI 3) (.box 3) [(0,0),(0,(y3.toNat))] 11 0 [.sl true 3 [(Net.row r2.1)]] (zA.row v10) (zK rfl (zF ev10).2)<|lA 3 ?_
     obtain ⟨h8,H⟩ | ⟨h8,H⟩ := bC H
     ·refine qL 0x10000000000000000000000000000000a8 8 [132] h8<|uA 3 0x8000000000000000000000000000000028 8 ?_
      obtain ⟨h9,H⟩ | ⟨h9,H⟩ := bC H
      ·exact nA h9<|tK<|eA 3 40 8<|jB mo4 (wI (y3 + 1)) H [5,3] [3]
      refine tA h9<|gA 1 4 0<|te ?_
      cases H
      exact fF Ho4
     refine qL 0x10000000000000000000000000000000a8 8 [132] h8<|uA 3 0x8000000000000000000000000000000028 8<|tB_<|gA 1 4 0<|te ?_
     cases H
     exact fF Ho4
    refine qL 0x40000000000000000000000000000a8 8 [122] h7<|uA 13 0x8000000000000000000000000000000028 8<|tB_<|gA 1 4 0<|te ?_
    cases H
    exact fF Ho4
   refine qL 0x800000000000000000000001e8 8 [103] h3<|lA 4 ?_
   obtain ⟨h10,H⟩ | ⟨h10,H⟩ := bC H
   ·refine qL 0x8000000000000000000000001e8 8 [107] h10<|lA 4<|oA zA.row ev10<|lA 1<|dE (tI 3) (.box 3) [(0,0),(0,(y3.toNat))] 11 0 [.sl true 3 [(Net.row r2.1)]] (zA.row v10) (zK rfl (zF ev10).2)<|lA 2 ?_
    obtain ⟨h11,H⟩ | ⟨h11,H⟩ := bC H
    ·refine qL 0x1008000000000000000000000001e8 8 [116] h11<|lA 10<|oA zA.row ev10<|lA 1<|dE (tI 3) (.box 3) [(0,0),(0,(y3.toNat))] 11 0 [.sl true 3 [(Net.row r2.1)]] (zA.row v10) (zK rfl (zF ev10).2)<|lA 3 ?_
     obtain ⟨h12,H⟩ | ⟨h12,H⟩ := bC H
     ·refine qL 0x10000000000000000000000000000000a8 8 [132] h12<|uA 3 0x8000000000000000000000000000000028 8 ?_
      obtain ⟨h13,H⟩ | ⟨h13,H⟩ := bC H
      ·exact nA h13<|tK<|eA 3 40 8<|jB mo4 (wI (y3 + 1)) H [5,3] [3]
      refine tA h13<|gA 1 4 0<|te ?_
      cases H
      exact fF Ho4
     refine qL 0x10000000000000000000000000000000a8 8 [132] h12<|uA 3 0x8000000000000000000000000000000028 8<|tB_<|gA 1 4 0<|te ?_
     cases H
     exact fF Ho4
    refine qL 0x1008000000000000000000000001e8 8 [116] h11<|lA 6 ?_
    obtain ⟨h14,H⟩ | ⟨h14,H⟩ := bC H
    ·refine qL 0x40000000000000000000000000000a8 8 [122] h14<|lA 4<|oA zA.row ev10<|lA 1<|dE (tI 3) (.box 3) [(0,0),(0,(y3.toNat))] 11 0 [.sl true 3 [(Net.row r2.1)]] (zA.row v10) (zK rfl (zF ev10).2)<|lA 3 ?_
     obtain ⟨h15,H⟩ | ⟨h15,H⟩ := bC H
     ·refine qL 0x10000000000000000000000000000000a8 8 [132] h15<|uA 3 0x8000000000000000000000000000000028 8 ?_
      obtain ⟨h16,H⟩ | ⟨h16,H⟩ := bC H
      ·exact nA h16<|tK<|eA 3 40 8<|jB mo4 (wI (y3 + 1)) H [5,3] [3]
      refine tA h16<|gA 1 4 0<|te ?_
      cases H
      exact fF Ho4
     refine qL 0x10000000000000000000000000000000a8 8 [132] h15<|uA 3 0x8000000000000000000000000000000028 8<|tB_<|gA 1 4 0<|te ?_
     cases H
     exact fF Ho4
    refine qL 0x40000000000000000000000000000a8 8 [122] h14<|uA 13 0x8000000000000000000000000000000028 8<|tB_<|gA 1 4 0<|te ?_
    cases H
    exact fF Ho4
   refine qL 0x8000000000000000000000001e8 8 [107] h10<|uA 28 0x8000000000000000000000000000000028 8<|tB_<|gA 1 4 0<|te ?_
   cases H
   exact fF Ho4
  rintro _ H
  have H : (Yn n) = some r := H
  unfold Yn at H
  exact gA 1 4 0<|te (fT H)
 have H := Z7 h1 H
 exact tB_<|gA 1 4 0<|te (fT H)
def zEl (n : Nat) (x0 : (List zC)) : Option ((List zC)) :=
  (bif (decide (([] : List zC).length + x0.length ≤ 268435456)) then (some (([] : List zC) ++ x0)) else none)
def zDu (n : Nat) (x0 : (List Int)) : Option ((List Int)) :=
  (bif (decide (([] : List Int).length + x0.length ≤ 268435456)) then (some (([] : List Int) ++ x0)) else none)
def zBc (n : Nat) (x0 : zR) : Option (zR) :=
  (bif (decide (([] : List zT).length + x0.Rows.length ≤ 268435456)) then ((zDu n x0.Pv).bind fun r2 => (some (⟨(([] : List zT) ++ x0.Rows),r2⟩ : zR))) else none)
def QG (n : Nat) (x0 : zA) : Option (zA) :=
  (bif (decide (([] : List Pt).length + x0.Ps.length ≤ 268435456)) then ((zEl n x0.F).bind fun r2 => ((zBc n x0.V).bind fun r3 => (some (⟨x0.Id,x0.Name,(([] : List Pt) ++ x0.Ps),r2,r3,x0.Tk,x0.Pa,x0.Wo,x0.Dr,x0.Ve⟩ : zA)))) else none)
def zG1 (n : Nat) (x0 : Net) (y5 : (List zA)) : Option (Net) :=
  (some (⟨y5,(([] : List Link) ++ x0.Ls),(([] : List Say) ++ x0.Said)⟩ : Net))
def Yl (n : Nat) : Nat → Net → Int → (List zA) → Option (((List zA)) ⊕ (Net))
  | 0,_,_,_ => none
  | mo6 + 1,x0,y3,y4 => (bif (decide (y3 < (x0.Bs.length : Int))) then ((idx x0.Bs y3).bind fun v7 => ((QG n v7).bind fun r8 => (bif (decide (y4.length + [r8].length ≤ 268435456)) then (Yl n mo6 x0 (IntKind.wrap .i64 (y3 + 1)) (y4 ++ [r8])) else none))) else (some (Sum.inl y4)))
def zAe (n : Nat) (x0 : Net) : Option (Net) :=
  (bif (decide (([] : List Link).length + x0.Ls.length ≤ 268435456)) then (bif (decide (([] : List Say).length + x0.Said.length ≤ 268435456)) then ((Yl n n x0 0 ([] : List zA)).bind fun o => match o with | .inl y5 => (zG1 n x0 y5) | .inr r => some r) else none) else none)
def Je (n : Nat) (x0 : Vec) : Option (Bool) :=
  ((zq n x0.Root 1 99).bind fun r1 => (bif r1 then ((zq n x0.Co 0 100000).bind fun r2 => (bif r2 then ((zq n x0.Hops 0 10).bind fun r3 => (bif r3 then ((zq n x0.Bridge 1 99).bind fun r4 => (bif r4 then ((zq n x0.Port 0 7).bind fun r5 => (some r5)) else (some false))) else (some false))) else (some false))) else (some false)))
def zEN (n : Nat) (x0 : Pt) : Option (Bool) :=
  ((zq n x0.Co 1 1000).bind fun r1 => (bif (!r1) then (some false) else (bif x0.Has then (bif (!x0.Up) then (some false) else ((Je n x0.Hd).bind fun r2 => (some r2))) else (some ((x0.Hd.Root == 0) && ((x0.Hd.Co == 0) && ((x0.Hd.Hops == 0) && ((x0.Hd.Bridge == 0) && ((x0.Hd.Port == 0) && true)))))))))
def zFC (n : Nat) (x0 : zC) : Option (Bool) :=
  ((zq n x0.Tag 1 99).bind fun r1 => (bif r1 then ((zq n x0.Mac 1 9999).bind fun r2 => (bif r2 then ((zq n x0.Port 0 7).bind fun r3 => (bif r3 then ((zq n x0.Age 0 4).bind fun r4 => (bif r4 then (bif (!x0.Sc) then (some true) else (some (x0.Age == 0))) else (some false))) else (some false))) else (some false))) else (some false)))
def zC0 (n : Nat) (x0 : zC) (x1 : Int) (x2 : Int) : Option (Bool) :=
  (bif (decide (x0.Tag > x1)) then (some true) else (bif (x0.Tag == x1) then (some (decide (x0.Mac > x2))) else (some false)))
def zIQ (n : Nat) (x0 : (List zC)) : Option (Bool) :=
  (some (decide ((x0.length : Int) ≤ 12)))
def Ya (n : Nat) : Nat → (List zC) → Int → Option ((Unit) ⊕ (Bool))
  | 0,_,_ => none
  | mo2 + 1,x0,y1 => (bif (decide (y1 < (x0.length : Int))) then ((idx x0 y1).bind fun v3 => ((zFC n v3).bind fun r4 => (bif (!r4) then (some (Sum.inr false)) else (bif (decide (y1 > 0)) then ((idx x0 (IntKind.wrap .i64 (y1 - 1))).bind fun v5 => ((idx x0 (IntKind.wrap .i64 (y1 - 1))).bind fun v6 => ((zC0 n v3 v5.Tag v6.Mac).bind fun r7 => (bif (!r7) then (some (Sum.inr false)) else (Ya n mo2 x0 (IntKind.wrap .i64 (y1 + 1))))))) else (Ya n mo2 x0 (IntKind.wrap .i64 (y1 + 1))))))) else (some (Sum.inl ())))
def zDd (n : Nat) (x0 : (List zC)) : Option (Bool) :=
  ((Ya n n x0 0).bind fun o => match o with | .inl _ => (zIQ n x0) | .inr r => some r)
def zAA (n : Nat) (x0 : Int) : Option (Int) :=
  (bif (decide ((0 : Int) ≤ x0)) then (some (IntKind.wrap .i64 ((IntKind.wrap .i64 (1 * 2 ^ min ((x0 : Int)).toNat (IntKind.bits .i64))) - 1))) else none)
def zIT (n : Nat) : Option (Int) :=
  (some (-1))
def zAd (n : Nat) : Nat → zR → Int → Int → Option ((Unit) ⊕ (Int))
  | 0,_,_,_ => none
  | mo2 + 1,x0,x1,y1 => (bif (decide (y1 < (x0.Rows.length : Int))) then ((idx x0.Rows y1).bind fun v3 => (bif (v3.Id == x1) then (some (Sum.inr y1)) else (zAd n mo2 x0 x1 (IntKind.wrap .i64 (y1 + 1))))) else (some (Sum.inl ())))
def zDe (n : Nat) (x0 : zR) (x1 : Int) : Option (Int) :=
  ((zAd n n x0 x1 0).bind fun o => match o with | .inl _ => (zIT n) | .inr r => some r)
def zHg (n : Nat) : Option (Bool) :=
  (some true)
def JB (n : Nat) : Nat → zR → Int → Option ((Unit) ⊕ (Bool))
  | 0,_,_ => none
  | mo4 + 1,x0,y3 => (bif (decide (y3 < (x0.Pv.length : Int))) then ((idx x0.Pv y3).bind fun v5 => ((zDe n x0 v5).bind fun r6 => (bif (decide (r6 < 0)) then (some (Sum.inr false)) else (JB n mo4 x0 (IntKind.wrap .i64 (y3 + 1)))))) else (some (Sum.inl ())))
def zDt (n : Nat) (x0 : zR) : Option (Bool) :=
  ((JB n n x0 0).bind fun o => match o with | .inl _ => (zHg n) | .inr r => some r)
def YF (n : Nat) : Nat → zR → Int → Int → Option ((Unit) ⊕ (Bool))
  | 0,_,_,_ => none
  | mo7 + 1,x0,x1,y2 => (bif (decide (y2 < (x0.Rows.length : Int))) then ((idx x0.Rows y2).bind fun v8 => ((zq n v8.Id 1 99).bind fun r9 => (bif (!r9) then (some (Sum.inr false)) else (bif (decide (y2 > 0)) then ((idx x0.Rows (IntKind.wrap .i64 (y2 - 1))).bind fun v12 => (bif (decide (v12.Id ≥ v8.Id)) then (some (Sum.inr false)) else ((zAA n x1).bind fun r13 => ((zq n v8.Members 0 r13).bind fun r14 => (bif (!r14) then (some (Sum.inr false)) else (bif ((IntKind.wrap .i64 (BitVec.ofInt (IntKind.bits .i64) v8.Bare &&& ~~~BitVec.ofInt (IntKind.bits .i64) v8.Members).toNat) != 0) then (some (Sum.inr false)) else (YF n mo7 x0 x1 (IntKind.wrap .i64 (y2 + 1))))))))) else ((zAA n x1).bind fun r10 => ((zq n v8.Members 0 r10).bind fun r11 => (bif (!r11) then (some (Sum.inr false)) else (bif ((IntKind.wrap .i64 (BitVec.ofInt (IntKind.bits .i64) v8.Bare &&& ~~~BitVec.ofInt (IntKind.bits .i64) v8.Members).toNat) != 0) then (some (Sum.inr false)) else (YF n mo7 x0 x1 (IntKind.wrap .i64 (y2 + 1))))))))))) else (some (Sum.inl ())))
def zCz (n : Nat) (x0 : zR) (x1 : Int) : Option (Bool) :=
  ((zq n x1 1 6).bind fun r1 => (bif (!r1) then (some false) else (bif ((x0.Pv.length : Int) != x1) then (some false) else (bif (decide ((x0.Rows.length : Int) > 6)) then (some false) else ((YF n n x0 x1 0).bind fun o => match o with | .inl _ => (zDt n x0) | .inr r => some r)))))
def Yd (n : Nat) (x0 : Int) : Option (Bool) :=
  ((zq n x0 0 1000000).bind fun r1 => (some r1))
def zCu (n : Nat) (x0 : zA) : Option (Bool) :=
  ((zq n x0.Id 1 99).bind fun r2 => (bif (!r2) then (some false) else (bif (decide ((x0.Name.size : Int) > 10)) then (some false) else ((zq n (x0.Ps.length : Int) 1 6).bind fun r3 => (bif (!r3) then (some false) else ((zDd n x0.F).bind fun r4 => (bif (!r4) then (some false) else ((zCz n x0.V (x0.Ps.length : Int)).bind fun r5 => (bif (!r5) then (some false) else ((Yd n x0.Tk).bind fun r6 => (bif r6 then ((Yd n x0.Pa).bind fun r7 => (bif r7 then ((Yd n x0.Wo).bind fun r8 => (bif r8 then ((Yd n x0.Dr).bind fun r9 => (bif r9 then ((Yd n x0.Ve).bind fun r10 => (some r10)) else (some false))) else (some false))) else (some false))) else (some false))))))))))))
def JR (n : Nat) : Nat → zA → Int → Option ((Unit) ⊕ (Bool))
  | 0,_,_ => none
  | mo11 + 1,x0,y1 => (bif (decide (y1 < (x0.Ps.length : Int))) then ((idx x0.Ps y1).bind fun v12 => ((zEN n v12).bind fun r13 => (bif (!r13) then (some (Sum.inr false)) else (JR n mo11 x0 (IntKind.wrap .i64 (y1 + 1)))))) else (some (Sum.inl ())))
def YE (n : Nat) (x0 : zA) : Option (Bool) :=
  ((JR n n x0 0).bind fun o => match o with | .inl _ => (zCu n x0) | .inr r => some r)
def zI0 (n : Nat) : Option (Bool) :=
  (some false)
def Qm (n : Nat) : Nat → (List Link) → Int → Int → Int → Option ((Unit) ⊕ (Bool))
  | 0,_,_,_,_ => none
  | mo2 + 1,x0,x1,x2,y1 => (bif (decide (y1 < (x0.length : Int))) then ((idx x0 y1).bind fun v3 => (bif (v3.A == x1) then (bif (v3.P == x2) then (some (Sum.inr true)) else (bif (v3.B == x1) then (bif (v3.Q == x2) then (some (Sum.inr true)) else (Qm n mo2 x0 x1 x2 (IntKind.wrap .i64 (y1 + 1)))) else (Qm n mo2 x0 x1 x2 (IntKind.wrap .i64 (y1 + 1))))) else (bif (v3.B == x1) then (bif (v3.Q == x2) then (some (Sum.inr true)) else (Qm n mo2 x0 x1 x2 (IntKind.wrap .i64 (y1 + 1)))) else (Qm n mo2 x0 x1 x2 (IntKind.wrap .i64 (y1 + 1)))))) else (some (Sum.inl ())))
def zA5 (n : Nat) (x0 : (List Link)) (x1 : Int) (x2 : Int) : Option (Bool) :=
  ((Qm n n x0 x1 x2 0).bind fun o => match o with | .inl _ => (zI0 n) | .inr r => some r)
def zG3 (n : Nat) : Option (Bool) :=
  (some true)
def ZA (n : Nat) : Nat → Net → Int → Option ((Unit) ⊕ (Bool))
  | 0,_,_ => none
  | mo2 + 1,x0,y1 => (bif (decide (y1 < (x0.Ls.length : Int))) then ((idx x0.Ls y1).bind fun v3 => ((ZZ n x0 v3.A v3.P).bind fun r4 => ((ZZ n x0 v3.B v3.Q).bind fun r5 => (bif (decide (y1 ≥ 9)) then (some (Sum.inr false)) else (bif (!r4.2) then (some (Sum.inr false)) else (bif (!r5.2) then (some (Sum.inr false)) else (bif (v3.A == v3.B) then (some (Sum.inr false)) else (bif (!(r4.1.Up == r5.1.Up)) then (some (Sum.inr false)) else (bif (decide ((0 : Int) ≤ 0) && (decide ((0 : Int) ≤ y1) && decide ((y1 : Int) ≤ (x0.Ls.length : Int)))) then ((zA5 n ((x0.Ls.drop ((0 : Int)).toNat).take (((y1 : Int)).toNat - ((0 : Int)).toNat)) v3.A v3.P).bind fun r7 => (bif r7 then (some (Sum.inr false)) else (bif (decide ((0 : Int) ≤ 0) && (decide ((0 : Int) ≤ y1) && decide ((y1 : Int) ≤ (x0.Ls.length : Int)))) then ((zA5 n ((x0.Ls.drop ((0 : Int)).toNat).take (((y1 : Int)).toNat - ((0 : Int)).toNat)) v3.B v3.Q).bind fun r9 => (bif r9 then (some (Sum.inr false)) else (ZA n mo2 x0 (IntKind.wrap .i64 (y1 + 1))))) else none))) else none))))))))) else (some (Sum.inl ())))
def zCK (n : Nat) (x0 : Net) : Option (Bool) :=
  ((ZA n n x0 0).bind fun o => match o with | .inl _ => (zG3 n) | .inr r => some r)
def zEg (n : Nat) (x0 : Net) : Option (Bool) :=
  ((zCK n x0).bind fun r4 => (some r4))
def Z8 (n : Nat) : Nat → Net → Int → Option ((Unit) ⊕ (Bool))
  | 0,_,_ => none
  | mo5 + 1,x0,y3 => (bif (decide (y3 < (x0.Said.length : Int))) then ((idx x0.Said y3).bind fun v6 => ((zq n v6.Link 0 (IntKind.wrap .i64 ((x0.Ls.length : Int) - 1))).bind fun r7 => (bif (!r7) then (some (Sum.inr false)) else ((Je n v6.V).bind fun r8 => (bif (!r8) then (some (Sum.inr false)) else (Z8 n mo5 x0 (IntKind.wrap .i64 (y3 + 1)))))))) else (some (Sum.inl ())))
def zCI (n : Nat) (x0 : Net) : Option (Bool) :=
  ((Z8 n n x0 0).bind fun o => match o with | .inl _ => (zEg n x0) | .inr r => some r)
def zEi (n : Nat) (k : (Int → Option ((Unit) ⊕ (Bool)))) (y2 : Int) (y16 : Int) : Option ((Unit) ⊕ (Bool)) :=
  (k (IntKind.wrap .i64 (y2 + 1)))
def Qb (n : Nat) : Nat → zA → Net → Int → Int → Option ((Int) ⊕ (Bool))
  | 0,_,_,_,_ => none
  | mo17 + 1,v10,x0,y2,y15 => (bif (decide (y15 < (v10.Ps.length : Int))) then ((idx v10.Ps y15).bind fun v18 => (bif v18.Has then ((zA5 n x0.Ls y2 y15).bind fun r19 => (bif (!r19) then (some (Sum.inr false)) else (Qb n mo17 v10 x0 y2 (IntKind.wrap .i64 (y15 + 1))))) else (Qb n mo17 v10 x0 y2 (IntKind.wrap .i64 (y15 + 1))))) else (some (Sum.inl y15)))
def zEh (n : Nat) (k : (Int → Option ((Unit) ⊕ (Bool)))) (v10 : zA) (x0 : Net) (y2 : Int) (y14 : Int) : Option ((Unit) ⊕ (Bool)) :=
  ((Qb n n v10 x0 y2 0).bind fun o => match o with | .inl y16 => (zEi n k y2 y16) | .inr r => some (Sum.inr r))
def Q3 (n : Nat) : Nat → zA → Net → Int → Int → Option ((Int) ⊕ (Bool))
  | 0,_,_,_,_ => none
  | mo20 + 1,v10,x0,y2,y13 => (bif (decide (y13 < (((x0.Bs.drop ((0 : Int)).toNat).take (((y2 : Int)).toNat - ((0 : Int)).toNat)).length : Int))) then ((idx ((x0.Bs.drop ((0 : Int)).toNat).take (((y2 : Int)).toNat - ((0 : Int)).toNat)) y13).bind fun v21 => (bif (v21.Id == v10.Id) then (some (Sum.inr false)) else (Q3 n mo20 v10 x0 y2 (IntKind.wrap .i64 (y13 + 1))))) else (some (Sum.inl y13)))
def Zd (n : Nat) : Nat → Net → Int → Option ((Unit) ⊕ (Bool))
  | 0,_,_ => none
  | mo9 + 1,x0,y2 => (bif (decide (y2 < (x0.Bs.length : Int))) then ((idx x0.Bs y2).bind fun v10 => ((YE n v10).bind fun r11 => (bif (!r11) then (some (Sum.inr false)) else (bif (decide ((0 : Int) ≤ 0) && (decide ((0 : Int) ≤ y2) && decide ((y2 : Int) ≤ (x0.Bs.length : Int)))) then ((Q3 n n v10 x0 y2 0).bind fun o => match o with | .inl y14 => (zEh n (fun v => Zd n mo9 x0 v) v10 x0 y2 y14) | .inr r => some (Sum.inr r)) else none)))) else (some (Sum.inl ())))
def Yy (n : Nat) (x0 : Net) : Option (Bool) :=
  ((zq n (x0.Bs.length : Int) 1 6).bind fun r1 => (bif (!r1) then (some false) else (bif (decide ((x0.Said.length : Int) > 40)) then (some false) else ((Zd n n x0 0).bind fun o => match o with | .inl _ => (zCI n x0) | .inr r => some r))))
def zEk (n : Nat) (x0 : Vec) (x1 : Int) : Option (Vec × Bool) :=
  ((Je n x0).bind fun r1 => (bif (!r1) then (some (x0,false)) else ((zq n x1 1 1000).bind fun r2 => (bif (!r2) then (some (x0,false)) else ((Je n (⟨x0.Root,(IntKind.wrap .i64 (x0.Co + x1)),(IntKind.wrap .i64 (x0.Hops + 1)),x0.Bridge,x0.Port⟩ : Vec)).bind fun r3 => (bif (!r3) then (some (x0,false)) else (some ((⟨x0.Root,(IntKind.wrap .i64 (x0.Co + x1)),(IntKind.wrap .i64 (x0.Hops + 1)),x0.Bridge,x0.Port⟩ : Vec),true))))))))
def zCH (n : Nat) (x0 : Vec) (x1 : Vec) : Option (Bool) :=
  (bif (x0.Root != x1.Root) then (some (decide (x0.Root < x1.Root))) else (bif (x0.Co != x1.Co) then (some (decide (x0.Co < x1.Co))) else (bif (x0.Bridge != x1.Bridge) then (some (decide (x0.Bridge < x1.Bridge))) else (some (decide (x0.Port < x1.Port))))))
def zGx (n : Nat) (x0 : Int) (y11 : Int) (y12 : Int) (y13 : Int) (y14 : Int) : Option (Vec × Int) :=
  (some ((⟨y12,y13,y14,x0,0⟩ : Vec),y11))
def Yj (n : Nat) (k : (Int × Int × Int × Int × Int × Int × Int × Int × Int × Int → Option ((Int × Int × Int × Int) ⊕ (Vec × Int)))) (r17 : Vec × Bool) (y1 : Int) (y10 : Int) (y2 : Int) (y3 : Int) (y4 : Int) (y5 : Int) (y6 : Int) (y7 : Int) (y8 : Int) (y9 : Int) (y18 : Bool) (y19 : Bool) (y20 : Bool) (y21 : Bool) (y22 : Bool) (y23 : Bool) (y24 : Bool) : Option ((Int × Int × Int × Int) ⊕ (Vec × Int)) :=
  (bif y18 then (k ((IntKind.wrap .i64 (y1 + 1)),y1,r17.1.Root,r17.1.Co,r17.1.Hops,r17.1.Bridge,r17.1.Port,r17.1.Root,r17.1.Co,r17.1.Hops)) else (k ((IntKind.wrap .i64 (y1 + 1)),y2,y3,y4,y5,y6,y7,y8,y9,y10)))
def ZT (n : Nat) : Nat → Int → (List Pt) → Int → Int → Int → Int → Int → Int → Int → Int → Int → Int → Option ((Int × Int × Int × Int) ⊕ (Vec × Int))
  | 0,_,_,_,_,_,_,_,_,_,_,_,_ => none
  | mo15 + 1,x0,x1,y1,y2,y3,y4,y5,y6,y7,y8,y9,y10 => (bif (decide (y1 < (x1.length : Int))) then ((idx x1 y1).bind fun v16 => (bif (!v16.Up) then (ZT n mo15 x0 x1 (IntKind.wrap .i64 (y1 + 1)) y2 y3 y4 y5 y6 y7 y8 y9 y10) else (bif (!v16.Has) then (ZT n mo15 x0 x1 (IntKind.wrap .i64 (y1 + 1)) y2 y3 y4 y5 y6 y7 y8 y9 y10) else ((zEk n v16.Hd v16.Co).bind fun r17 => (bif r17.2 then (bif (decide (r17.1.Root < x0)) then (bif (decide (y2 < 0)) then (Yj n (fun v => ZT n mo15 x0 x1 v.1 v.2.1 v.2.2.1 v.2.2.2.1 v.2.2.2.2.1 v.2.2.2.2.2.1 v.2.2.2.2.2.2.1 v.2.2.2.2.2.2.2.1 v.2.2.2.2.2.2.2.2.1 v.2.2.2.2.2.2.2.2.2) r17 y1 y10 y2 y3 y4 y5 y6 y7 y8 y9 true true true true true true true) else ((zCH n r17.1 (⟨y3,y4,y5,y6,y7⟩ : Vec)).bind fun r25 => (Yj n (fun v => ZT n mo15 x0 x1 v.1 v.2.1 v.2.2.1 v.2.2.2.1 v.2.2.2.2.1 v.2.2.2.2.2.1 v.2.2.2.2.2.2.1 v.2.2.2.2.2.2.2.1 v.2.2.2.2.2.2.2.2.1 v.2.2.2.2.2.2.2.2.2) r17 y1 y10 y2 y3 y4 y5 y6 y7 y8 y9 r25 true true true true true true))) else (Yj n (fun v => ZT n mo15 x0 x1 v.1 v.2.1 v.2.2.1 v.2.2.2.1 v.2.2.2.2.1 v.2.2.2.2.2.1 v.2.2.2.2.2.2.1 v.2.2.2.2.2.2.2.1 v.2.2.2.2.2.2.2.2.1 v.2.2.2.2.2.2.2.2.2) r17 y1 y10 y2 y3 y4 y5 y6 y7 y8 y9 false false false true true true true)) else (Yj n (fun v => ZT n mo15 x0 x1 v.1 v.2.1 v.2.2.1 v.2.2.2.1 v.2.2.2.2.1 v.2.2.2.2.2.1 v.2.2.2.2.2.2.1 v.2.2.2.2.2.2.2.1 v.2.2.2.2.2.2.2.2.1 v.2.2.2.2.2.2.2.2.2) r17 y1 y10 y2 y3 y4 y5 y6 y7 y8 y9 false false false false false false false)))))) else (some (Sum.inl (y2,y8,y9,y10))))
def zAc (n : Nat) (x0 : Int) (x1 : (List Pt)) : Option (Vec × Int) :=
  ((ZT n n x0 x1 0 (-1) 0 0 0 0 0 x0 0 0).bind fun o => match o with | .inl (y11,y12,y13,y14) => (zGx n x0 y11 y12 y13 y14) | .inr r => some r)
def zA3 (n : Nat) (x0 : Int) (x1 : (List Pt)) (x2 : Int) : Option (Vec) :=
  ((zAc n x0 x1).bind fun r1 => (some (⟨r1.1.Root,r1.1.Co,r1.1.Hops,r1.1.Bridge,x2⟩ : Vec)))
def Ym (n : Nat) (x0 : Net) (x1 : Int) (x2 : Int) : Option (Vec) :=
  ((idx x0.Bs x1).bind fun v1 => ((idx x0.Bs x1).bind fun v2 => ((zA3 n v1.Id v2.Ps x2).bind fun r3 => (some r3))))
def zA6 (n : Nat) (x0 : zA) (x1 : Int) : Option (Bool) :=
  ((YE n x0).bind fun r1 => (bif r1 then ((zq n x1 0 (IntKind.wrap .i64 ((x0.Ps.length : Int) - 1))).bind fun r2 => (some r2)) else (some false)))
def zCc (n : Nat) (x0 : Int) : Option (Int) :=
  (some (if 1000000 < (IntKind.wrap .i64 (x0 + 1)) then 1000000 else (IntKind.wrap .i64 (x0 + 1))))
def zCy (n : Nat) (x0 : Int) (x1 : (List Pt)) (x2 : Int) : Option (Int) :=
  ((zq n x2 0 (IntKind.wrap .i64 ((x1.length : Int) - 1))).bind fun r1 => (bif (!r1) then (some 4) else ((idx x1 x2).bind fun v2 => (bif (!v2.Up) then (some 4) else ((zAc n x0 x1).bind fun r3 => (bif (r3.2 == x2) then (some 1) else ((idx x1 x2).bind fun v4 => (bif (!v4.Has) then (some 2) else ((zA3 n x0 x1 x2).bind fun r5 => ((idx x1 x2).bind fun v6 => ((zCH n r5 v6.Hd).bind fun r7 => (bif r7 then (some 2) else (some 3)))))))))))))
def zIU (n : Nat) (y3 : Int) : Option (Int) :=
  (some y3)
def Q4 (n : Nat) : Nat → Int → (List Pt) → Int → Int → Option ((Int) ⊕ (Int))
  | 0,_,_,_,_ => none
  | mo4 + 1,x0,x1,y1,y2 => (bif (decide (y1 < (x1.length : Int))) then (bif (decide (y1 < 6)) then ((zCy n x0 x1 y1).bind fun r5 => (bif (r5 == 1) then (bif (decide ((0 : Int) ≤ y1)) then (Q4 n mo4 x0 x1 (IntKind.wrap .i64 (y1 + 1)) (IntKind.wrap .i64 (BitVec.ofInt (IntKind.bits .i64) y2 ||| BitVec.ofInt (IntKind.bits .i64) (IntKind.wrap .i64 (1 * 2 ^ min ((y1 : Int)).toNat (IntKind.bits .i64)))).toNat)) else none) else (bif (r5 == 2) then (bif (decide ((0 : Int) ≤ y1)) then (Q4 n mo4 x0 x1 (IntKind.wrap .i64 (y1 + 1)) (IntKind.wrap .i64 (BitVec.ofInt (IntKind.bits .i64) y2 ||| BitVec.ofInt (IntKind.bits .i64) (IntKind.wrap .i64 (1 * 2 ^ min ((y1 : Int)).toNat (IntKind.bits .i64)))).toNat)) else none) else (Q4 n mo4 x0 x1 (IntKind.wrap .i64 (y1 + 1)) y2)))) else (some (Sum.inl y2))) else (some (Sum.inl y2)))
def zBl (n : Nat) (x0 : Int) (x1 : (List Pt)) : Option (Int) :=
  ((Q4 n n x0 x1 0 0).bind fun o => match o with | .inl y3 => (zIU n y3) | .inr r => some r)
def zAf (n : Nat) (x0 : Int) (x1 : Int) : Option (Bool) :=
  ((zq n x1 0 62).bind fun r1 => (bif r1 then (bif (decide ((0 : Int) ≤ x1)) then (some ((IntKind.wrap .i64 (BitVec.ofInt (IntKind.bits .i64) (Int.fdiv x0 (2 ^ min ((x1 : Int)).toNat (IntKind.bits .i64))) &&& BitVec.ofInt (IntKind.bits .i64) 1).toNat) == 1)) else none) else (some false)))
def zCP (n : Nat) (y3 : (List zC)) : Option ((List zC)) :=
  (some y3)
def ZP (n : Nat) : Nat → (List zC) → Int → Int → (List zC) → Option (((List zC)) ⊕ ((List zC)))
  | 0,_,_,_,_ => none
  | mo4 + 1,x0,x1,y1,y2 => (bif (decide (y1 < (x0.length : Int))) then ((idx x0 y1).bind fun v5 => (bif v5.Sc then (bif (decide (y2.length + [v5].length ≤ 268435456)) then (ZP n mo4 x0 x1 (IntKind.wrap .i64 (y1 + 1)) (y2 ++ [v5])) else none) else (bif (v5.Port != x1) then (bif (decide (y2.length + [v5].length ≤ 268435456)) then (ZP n mo4 x0 x1 (IntKind.wrap .i64 (y1 + 1)) (y2 ++ [v5])) else none) else (ZP n mo4 x0 x1 (IntKind.wrap .i64 (y1 + 1)) y2)))) else (some (Sum.inl y2)))
def zA1 (n : Nat) (x0 : (List zC)) (x1 : Int) : Option ((List zC)) :=
  ((ZP n n x0 x1 0 ([] : List zC)).bind fun o => match o with | .inl y3 => (zCP n y3) | .inr r => some r)
def zEt (n : Nat) (r1 : Int) (x0 : zA) (y5 : (List zC)) : Option (zA) :=
  (some (⟨x0.Id,x0.Name,x0.Ps,y5,x0.V,x0.Tk,x0.Pa,x0.Wo,x0.Dr,r1⟩ : zA))
def Z3 (n : Nat) : Nat → Int → zA → Int → (List zC) → Option (((List zC)) ⊕ (zA))
  | 0,_,_,_,_ => none
  | mo6 + 1,r2,x0,y3,y4 => (bif (decide (y3 < (x0.Ps.length : Int))) then ((zAf n r2 y3).bind fun r7 => (bif (!r7) then ((zA1 n y4 y3).bind fun r8 => (Z3 n mo6 r2 x0 (IntKind.wrap .i64 (y3 + 1)) r8)) else (Z3 n mo6 r2 x0 (IntKind.wrap .i64 (y3 + 1)) y4))) else (some (Sum.inl y4)))
def ZO (n : Nat) (x0 : zA) : Option (zA) :=
  ((zCc n x0.Ve).bind fun r1 => ((zBl n x0.Id x0.Ps).bind fun r2 => ((Z3 n n r2 x0 0 x0.F).bind fun o => match o with | .inl y5 => (zEt n r1 x0 y5) | .inr r => some r)))
def Jj (n : Nat) (r1 : zA) (x1 : Int) (x2 : Vec) (y2 : Bool) : Option (zA) :=
  (bif y2 then ((idx r1.Ps x1).bind fun v3 => ((idx (r1.Ps.set (x1.toNat) (⟨v3.Up,v3.Co,true,v3.Hd⟩ : Pt)) x1).bind fun v4 => ((ZO n (⟨r1.Id,r1.Name,((r1.Ps.set (x1.toNat) (⟨v3.Up,v3.Co,true,v3.Hd⟩ : Pt)).set (x1.toNat) (⟨v4.Up,v4.Co,v4.Has,x2⟩ : Pt)),r1.F,r1.V,r1.Tk,r1.Pa,r1.Wo,r1.Dr,r1.Ve⟩ : zA)).bind fun r5 => (some r5)))) else (some r1))
def Yb (n : Nat) (x0 : zA) (x1 : Int) (x2 : Vec) : Option (zA) :=
  ((QG n x0).bind fun r1 => ((zA6 n x0 x1).bind fun r6 => (bif r6 then ((idx x0.Ps x1).bind fun v7 => (bif v7.Up then ((Je n x2).bind fun r8 => (Jj n r1 x1 x2 r8)) else (Jj n r1 x1 x2 false))) else (Jj n r1 x1 x2 false))))
def Zq (n : Nat) (x0 : Net) (x1 : Int) (x2 : Int) (x3 : Vec) : Option (Net) :=
  ((idx x0.Bs x1).bind fun v1 => ((Yb n v1 x2 x3).bind fun r2 => (some (⟨(x0.Bs.set (x1.toNat) r2),x0.Ls,x0.Said⟩ : Net))))
def zIS (n : Nat) (y7 : (List zA)) (y8 : (List Link)) (y9 : (List Say)) : Option (Net) :=
  (some (⟨y7,y8,y9⟩ : Net))
def zCJ (n : Nat) : Nat → Net → Int → (List zA) → (List Link) → (List Say) → Option (((List zA) × (List Link) × (List Say)) ⊕ (Net))
  | 0,_,_,_,_,_ => none
  | mo10 + 1,x0,y3,y4,y5,y6 => (bif (decide (y3 < (x0.Ls.length : Int))) then ((idx x0.Ls y3).bind fun v11 => ((za n x0 y3).bind fun r12 => (bif r12 then ((Ym n x0 v11.B v11.Q).bind fun r13 => ((Zq n (⟨y4,y5,y6⟩ : Net) v11.A v11.P r13).bind fun r14 => ((Ym n x0 v11.A v11.P).bind fun r15 => ((Zq n r14 v11.B v11.Q r15).bind fun r16 => (zCJ n mo10 x0 (IntKind.wrap .i64 (y3 + 1)) r16.Bs r16.Ls r16.Said))))) else (zCJ n mo10 x0 (IntKind.wrap .i64 (y3 + 1)) y4 y5 y6)))) else (some (Sum.inl (y4,y5,y6))))
def zM1 (n : Nat) (x0 : Net) : Option (Net) :=
  ((zAe n x0).bind fun r1 => ((Yy n x0).bind fun r2 => (bif (!r2) then (some r1) else ((zCJ n n x0 0 r1.Bs r1.Ls ([] : List Say)).bind fun o => match o with | .inl (y7,y8,y9) => (zIS n y7 y8 y9) | .inr r => some r))))
def zF0 (n : Nat) (x0 : Net) (x1 : Int) (x2 : Int) (x3 : Vec) : Option (Bool) :=
  ((ZZ n x0 x1 x2).bind fun r1 => (bif r1.2 then (bif r1.1.Has then (some ((r1.1.Hd.Root == x3.Root) && ((r1.1.Hd.Co == x3.Co) && ((r1.1.Hd.Hops == x3.Hops) && ((r1.1.Hd.Bridge == x3.Bridge) && ((r1.1.Hd.Port == x3.Port) && true)))))) else (some false)) else (some false)))
def zHe (n : Nat) : Option (Bool) :=
  (some true)
def zBZ (n : Nat) : Nat → Net → Int → Option ((Unit) ⊕ (Bool))
  | 0,_,_ => none
  | mo2 + 1,x0,y1 => (bif (decide (y1 < (x0.Ls.length : Int))) then ((idx x0.Ls y1).bind fun v3 => ((za n x0 y1).bind fun r4 => (bif r4 then ((Ym n x0 v3.B v3.Q).bind fun r5 => ((zF0 n x0 v3.A v3.P r5).bind fun r6 => (bif (!r6) then (some (Sum.inr false)) else ((Ym n x0 v3.A v3.P).bind fun r7 => ((zF0 n x0 v3.B v3.Q r7).bind fun r8 => (bif (!r8) then (some (Sum.inr false)) else (zBZ n mo2 x0 (IntKind.wrap .i64 (y1 + 1))))))))) else (zBZ n mo2 x0 (IntKind.wrap .i64 (y1 + 1)))))) else (some (Sum.inl ())))
def zMo (n : Nat) (x0 : Net) : Option (Bool) :=
  ((zBZ n n x0 0).bind fun o => match o with | .inl _ => (zHe n) | .inr r => some r)
def zEo (n : Nat) (x0 : Net) (x1 : Int) (x2 : Int) : Option (Bool) :=
  ((idx x0.Bs x1).bind fun v1 => ((idx x0.Bs x1).bind fun v2 => ((zBl n v1.Id v2.Ps).bind fun r3 => ((zAf n r3 x2).bind fun r4 => (some r4)))))
def zCw (n : Nat) (k : (Int × (List Int) → Option (((List Int)) ⊕ ((List Int))))) (y1 : Int) (y2 : (List Int)) (y6 : Bool) : Option (((List Int)) ⊕ ((List Int))) :=
  (bif y6 then (bif (decide (y2.length + [y1].length ≤ 268435456)) then (k ((IntKind.wrap .i64 (y1 + 1)),(y2 ++ [y1]))) else none) else (k ((IntKind.wrap .i64 (y1 + 1)),y2)))
def zCx (n : Nat) : Nat → Net → Int → (List Int) → Option (((List Int)) ⊕ ((List Int)))
  | 0,_,_,_ => none
  | mo4 + 1,x0,y1,y2 => (bif (decide (y1 < (x0.Ls.length : Int))) then ((idx x0.Ls y1).bind fun v5 => ((za n x0 y1).bind fun r8 => (bif r8 then ((zEo n x0 v5.A v5.P).bind fun r9 => (bif r9 then ((zEo n x0 v5.B v5.Q).bind fun r10 => (zCw n (fun v => zCx n mo4 x0 v.1 v.2) y1 y2 r10)) else (zCw n (fun v => zCx n mo4 x0 v.1 v.2) y1 y2 false))) else (zCw n (fun v => zCx n mo4 x0 v.1 v.2) y1 y2 false)))) else (some (Sum.inl y2)))
def zFj (n : Nat) (x0 : Net) (y3 : (List Say)) : Option (Net) :=
  (some (⟨x0.Bs,x0.Ls,y3⟩ : Net))
def qz (n : Nat) : Nat → Net → Int → Int → (List Say) → Option (((List Say)) ⊕ (Net))
  | 0,_,_,_,_ => none
  | mo4 + 1,x0,x1,y1,y2 => (bif (decide (y1 < (x0.Ls.length : Int))) then ((idx x0.Ls y1).bind fun v5 => ((za n (⟨x0.Bs,x0.Ls,y2⟩ : Net) y1).bind fun r6 => (bif (!r6) then (qz n mo4 x0 x1 (IntKind.wrap .i64 (y1 + 1)) y2) else (bif (decide ((y2.length : Int) ≥ 40)) then (qz n mo4 x0 x1 (IntKind.wrap .i64 (y1 + 1)) y2) else (bif (v5.A == x1) then ((Ym n (⟨x0.Bs,x0.Ls,y2⟩ : Net) x1 v5.P).bind fun r9 => (bif (decide (y2.length + [(⟨y1,false,r9⟩ : Say)].length ≤ 268435456)) then (qz n mo4 x0 x1 (IntKind.wrap .i64 (y1 + 1)) (y2 ++ [(⟨y1,false,r9⟩ : Say)])) else none)) else (bif (v5.B == x1) then ((Ym n (⟨x0.Bs,x0.Ls,y2⟩ : Net) x1 v5.Q).bind fun r7 => (bif (decide (y2.length + [(⟨y1,true,r7⟩ : Say)].length ≤ 268435456)) then (qz n mo4 x0 x1 (IntKind.wrap .i64 (y1 + 1)) (y2 ++ [(⟨y1,true,r7⟩ : Say)])) else none)) else (qz n mo4 x0 x1 (IntKind.wrap .i64 (y1 + 1)) y2))))))) else (some (Sum.inl y2)))
def zA2 (n : Nat) (x0 : Net) (x1 : Int) : Option (Net) :=
  ((qz n n x0 x1 0 x0.Said).bind fun o => match o with | .inl y3 => (zFj n x0 y3) | .inr r => some r)
def zHd (n : Nat) (y3 : (List zC)) : Option ((List zC)) :=
  (some y3)
def Qf (n : Nat) : Nat → (List zC) → Int → (List zC) → Option (((List zC)) ⊕ ((List zC)))
  | 0,_,_,_ => none
  | mo4 + 1,x0,y1,y2 => (bif (decide (y1 < (x0.length : Int))) then ((idx x0 y1).bind fun v5 => (bif (!v5.Sc) then (bif (decide (v5.Age ≥ 4)) then (Qf n mo4 x0 (IntKind.wrap .i64 (y1 + 1)) y2) else (bif (decide (y2.length + [(⟨v5.Tag,v5.Mac,v5.Port,(IntKind.wrap .i64 (v5.Age + 1)),v5.Sc⟩ : zC)].length ≤ 268435456)) then (Qf n mo4 x0 (IntKind.wrap .i64 (y1 + 1)) (y2 ++ [(⟨v5.Tag,v5.Mac,v5.Port,(IntKind.wrap .i64 (v5.Age + 1)),v5.Sc⟩ : zC)])) else none)) else (bif (decide (y2.length + [v5].length ≤ 268435456)) then (Qf n mo4 x0 (IntKind.wrap .i64 (y1 + 1)) (y2 ++ [v5])) else none))) else (some (Sum.inl y2)))
def zCs (n : Nat) (x0 : (List zC)) : Option ((List zC)) :=
  ((Qf n n x0 0 ([] : List zC)).bind fun o => match o with | .inl y3 => (zHd n y3) | .inr r => some r)
def zCb (n : Nat) (x0 : zA) : Option (zA) :=
  ((QG n x0).bind fun r1 => ((YE n x0).bind fun r2 => (bif r2 then ((zCc n x0.Tk).bind fun r3 => ((zCs n x0.F).bind fun r4 => ((ZO n (⟨r1.Id,r1.Name,r1.Ps,r4,r1.V,r3,r1.Pa,r1.Wo,r1.Dr,r1.Ve⟩ : zA)).bind fun r5 => (some r5)))) else (some r1))))
def JS (n : Nat) (x0 : Net) (x1 : Int) (x2 : Bool) : Option (Net) :=
  ((idx x0.Said x1).bind fun v1 => (bif (decide ((0 : Int) ≤ 0) && (decide ((0 : Int) ≤ x1) && decide ((x1 : Int) ≤ (x0.Said.length : Int)))) then (bif (decide (([] : List Say).length + ((x0.Said.drop ((0 : Int)).toNat).take (((x1 : Int)).toNat - ((0 : Int)).toNat)).length ≤ 268435456)) then (bif (decide ((0 : Int) ≤ (IntKind.wrap .i64 (x1 + 1))) && (decide (((IntKind.wrap .i64 (x1 + 1)) : Int) ≤ (x0.Said.length : Int)) && decide (((x0.Said.length : Int) : Int) ≤ (x0.Said.length : Int)))) then (bif (decide ((([] : List Say) ++ ((x0.Said.drop ((0 : Int)).toNat).take (((x1 : Int)).toNat - ((0 : Int)).toNat))).length + ((x0.Said.drop (((IntKind.wrap .i64 (x1 + 1)) : Int)).toNat).take ((((x0.Said.length : Int) : Int)).toNat - (((IntKind.wrap .i64 (x1 + 1)) : Int)).toNat)).length ≤ 268435456)) then (bif (!x2) then (some (⟨x0.Bs,x0.Ls,((([] : List Say) ++ ((x0.Said.drop ((0 : Int)).toNat).take (((x1 : Int)).toNat - ((0 : Int)).toNat))) ++ ((x0.Said.drop (((IntKind.wrap .i64 (x1 + 1)) : Int)).toNat).take ((((x0.Said.length : Int) : Int)).toNat - (((IntKind.wrap .i64 (x1 + 1)) : Int)).toNat)))⟩ : Net)) else ((za n (⟨x0.Bs,x0.Ls,((([] : List Say) ++ ((x0.Said.drop ((0 : Int)).toNat).take (((x1 : Int)).toNat - ((0 : Int)).toNat))) ++ ((x0.Said.drop (((IntKind.wrap .i64 (x1 + 1)) : Int)).toNat).take ((((x0.Said.length : Int) : Int)).toNat - (((IntKind.wrap .i64 (x1 + 1)) : Int)).toNat)))⟩ : Net) v1.Link).bind fun r6 => (bif (!r6) then (some (⟨x0.Bs,x0.Ls,((([] : List Say) ++ ((x0.Said.drop ((0 : Int)).toNat).take (((x1 : Int)).toNat - ((0 : Int)).toNat))) ++ ((x0.Said.drop (((IntKind.wrap .i64 (x1 + 1)) : Int)).toNat).take ((((x0.Said.length : Int) : Int)).toNat - (((IntKind.wrap .i64 (x1 + 1)) : Int)).toNat)))⟩ : Net)) else ((idx x0.Ls v1.Link).bind fun v7 => (bif v1.Back then ((Zq n (⟨x0.Bs,x0.Ls,((([] : List Say) ++ ((x0.Said.drop ((0 : Int)).toNat).take (((x1 : Int)).toNat - ((0 : Int)).toNat))) ++ ((x0.Said.drop (((IntKind.wrap .i64 (x1 + 1)) : Int)).toNat).take ((((x0.Said.length : Int) : Int)).toNat - (((IntKind.wrap .i64 (x1 + 1)) : Int)).toNat)))⟩ : Net) v7.A v7.P v1.V).bind fun r9 => (some r9)) else ((Zq n (⟨x0.Bs,x0.Ls,((([] : List Say) ++ ((x0.Said.drop ((0 : Int)).toNat).take (((x1 : Int)).toNat - ((0 : Int)).toNat))) ++ ((x0.Said.drop (((IntKind.wrap .i64 (x1 + 1)) : Int)).toNat).take ((((x0.Said.length : Int) : Int)).toNat - (((IntKind.wrap .i64 (x1 + 1)) : Int)).toNat)))⟩ : Net) v7.B v7.Q v1.V).bind fun r8 => (some r8))))))) else none) else none) else none) else none))
def Yc (n : Nat) (x0 : zA) (x1 : Int) (x2 : Bool) : Option (zA) :=
  ((QG n x0).bind fun r1 => ((zA6 n x0 x1).bind fun r2 => (bif r2 then ((idx x0.Ps x1).bind fun v3 => ((idx r1.Ps x1).bind fun v4 => ((ZO n (⟨r1.Id,r1.Name,(r1.Ps.set (x1.toNat) (⟨x2,v3.Co,false,(⟨0,0,0,0,0⟩ : Vec)⟩ : Pt)),r1.F,r1.V,r1.Tk,r1.Pa,r1.Wo,r1.Dr,r1.Ve⟩ : zA)).bind fun r5 => (some r5)))) else (some r1))))
def zBa (n : Nat) (x0 : Net) (x1 : Int) (x2 : Bool) : Option (Net) :=
  ((za n x0 x1).bind fun r1 => (bif (r1 == x2) then (some x0) else ((idx x0.Ls x1).bind fun v2 => ((idx x0.Bs v2.A).bind fun v3 => ((Yc n v3 v2.P x2).bind fun r4 => ((idx (x0.Bs.set (v2.A.toNat) r4) v2.B).bind fun v5 => ((Yc n v5 v2.Q x2).bind fun r6 => (some (⟨((x0.Bs.set (v2.A.toNat) r4).set (v2.B.toNat) r6),x0.Ls,x0.Said⟩ : Net)))))))))
def zA4 (n : Nat) (r1 : Net) (x1 : Event) (y5 : Bool) : Option (Net × Bool) :=
  (bif y5 then ((JS n r1 x1.At (x1.Ki == 2)).bind fun r7 => (some (r7,true))) else ((zBa n r1 x1.At (x1.Ki == 5)).bind fun r6 => (some (r6,true))))
def ZY (n : Nat) (r1 : Net) (x0 : Net) (x1 : Event) (y3 : Int) : Option (Net × Bool) :=
  ((zq n x1.At 0 (IntKind.wrap .i64 (y3 - 1))).bind fun r4 => (bif (!r4) then (some (r1,false)) else (bif (x1.Ki == 1) then ((zA2 n r1 x1.At).bind fun r11 => (some (r11,true))) else (bif (x1.Ki == 6) then ((idx x0.Bs x1.At).bind fun v8 => ((zCb n v8).bind fun r9 => ((idx r1.Bs x1.At).bind fun v10 => (some ((⟨(r1.Bs.set (x1.At.toNat) r9),r1.Ls,r1.Said⟩ : Net),true))))) else (bif (x1.Ki == 2) then (zA4 n r1 x1 true) else (zA4 n r1 x1 (x1.Ki == 3)))))))
def Jx (n : Nat) (r1 : Net) (x0 : Net) (x1 : Event) (y13 : Bool) : Option (Net × Bool) :=
  (bif y13 then (ZY n r1 x0 x1 (x0.Said.length : Int)) else (bif (x1.Ki == 4) then (ZY n r1 x0 x1 (x0.Ls.length : Int)) else (bif (x1.Ki == 5) then (ZY n r1 x0 x1 (x0.Ls.length : Int)) else (ZY n r1 x0 x1 0))))
def QW (n : Nat) (r1 : Net) (x0 : Net) (x1 : Event) (y12 : Bool) : Option (Net × Bool) :=
  (bif y12 then (ZY n r1 x0 x1 (x0.Bs.length : Int)) else (bif (x1.Ki == 2) then (Jx n r1 x0 x1 true) else (Jx n r1 x0 x1 (x1.Ki == 3))))
def zGz (n : Nat) (x0 : Net) (x1 : Event) : Option (Net × Bool) :=
  ((zAe n x0).bind fun r1 => ((Yy n x0).bind fun r2 => (bif (!r2) then (some (r1,false)) else (bif (x1.Ki == 1) then (QW n r1 x0 x1 true) else (QW n r1 x0 x1 (x1.Ki == 6))))))
end Go.Proofs.Ytajadnlejdpceaa.Tw
