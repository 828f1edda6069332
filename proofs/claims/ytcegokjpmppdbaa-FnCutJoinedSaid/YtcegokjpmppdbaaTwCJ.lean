import Derived.Test.YtcegokjpmppdbaaProg
import Derived.Test.YtcegokjpmppdbaaTlRule
import Derived.Test.YtcegokjpmppdbaaTlU12
import Derived.Test.YtcegokjpmppdbaaTwCJ1
import Derived.WalkKit
set_option linter.unusedVariables false
set_option linter.unusedSimpArgs false
set_option maxRecDepth 100000
set_option maxHeartbeats 1000000
namespace Go.Proofs.Ytcegokjpmppdbaa.Tw
open Go Go.TL Go.Proofs
def Ya (n : Nat) (x0 : Net) : Option (Bool) :=
  ((Q8 n x0).bind fun r4 => (some r4))
def qJ (n : Nat) : Nat → Net → Int → Option ((Unit) ⊕ (Bool))
  | 0,_,_ => none
  | mo5 + 1,x0,y3 => (bif (decide (y3 < (x0.Said.length : Int))) then ((idx x0.Said y3).bind fun v6 => ((qI n v6.Link 0 (IntKind.wrap .i64 ((x0.Ls.length : Int) - 1))).bind fun r7 => (bif (!r7) then (some (Sum.inr false)) else ((YF n v6.V).bind fun r8 => (bif (!r8) then (some (Sum.inr false)) else (qJ n mo5 x0 (IntKind.wrap .i64 (y3 + 1)))))))) else (some (Sum.inl ())))
def Qg (n : Nat) (x0 : Net) : Option (Bool) :=
  ((qJ n n x0 0).bind fun o => match o with | .inl _ => (Ya n x0) | .inr r => some r)
def JU (n : Nat) (k : (Int → Option ((Unit) ⊕ (Bool)))) (y2 : Int) (y16 : Int) : Option ((Unit) ⊕ (Bool)) :=
  (k (IntKind.wrap .i64 (y2 + 1)))
def ZH (n : Nat) : Nat → zA → Net → Int → Int → Option ((Int) ⊕ (Bool))
  | 0,_,_,_,_ => none
  | mo17 + 1,v10,x0,y2,y15 => (bif (decide (y15 < (v10.Ps.length : Int))) then ((idx v10.Ps y15).bind fun v18 => (bif v18.Has then ((JN n x0.Ls y2 y15).bind fun r19 => (bif (!r19) then (some (Sum.inr false)) else (ZH n mo17 v10 x0 y2 (IntKind.wrap .i64 (y15 + 1))))) else (ZH n mo17 v10 x0 y2 (IntKind.wrap .i64 (y15 + 1))))) else (some (Sum.inl y15)))
def JT (n : Nat) (k : (Int → Option ((Unit) ⊕ (Bool)))) (v10 : zA) (x0 : Net) (y2 : Int) (y14 : Int) : Option ((Unit) ⊕ (Bool)) :=
  ((ZH n n v10 x0 y2 0).bind fun o => match o with | .inl y16 => (JU n k y2 y16) | .inr r => some (Sum.inr r))
def Zd (n : Nat) : Nat → zA → Net → Int → Int → Option ((Int) ⊕ (Bool))
  | 0,_,_,_,_ => none
  | mo20 + 1,v10,x0,y2,y13 => (bif (decide (y13 < (((x0.Bs.drop ((0 : Int)).toNat).take (((y2 : Int)).toNat - ((0 : Int)).toNat)).length : Int))) then ((idx ((x0.Bs.drop ((0 : Int)).toNat).take (((y2 : Int)).toNat - ((0 : Int)).toNat)) y13).bind fun v21 => (bif (v21.Id == v10.Id) then (some (Sum.inr false)) else (Zd n mo20 v10 x0 y2 (IntKind.wrap .i64 (y13 + 1))))) else (some (Sum.inl y13)))
def zr (n : Nat) : Nat → Net → Int → Option ((Unit) ⊕ (Bool))
  | 0,_,_ => none
  | mo9 + 1,x0,y2 => (bif (decide (y2 < (x0.Bs.length : Int))) then ((idx x0.Bs y2).bind fun v10 => ((QP n v10).bind fun r11 => (bif (!r11) then (some (Sum.inr false)) else (bif (decide ((0 : Int) ≤ 0) && (decide ((0 : Int) ≤ y2) && decide ((y2 : Int) ≤ (x0.Bs.length : Int)))) then ((Zd n n v10 x0 y2 0).bind fun o => match o with | .inl y14 => (JT n (fun v => zr n mo9 x0 v) v10 x0 y2 y14) | .inr r => some (Sum.inr r)) else none)))) else (some (Sum.inl ())))
def QU (n : Nat) (x0 : Net) : Option (Bool) :=
  ((qI n (x0.Bs.length : Int) 1 6).bind fun r1 => (bif (!r1) then (some false) else (bif (decide ((x0.Said.length : Int) > 40)) then (some false) else ((zr n n x0 0).bind fun o => match o with | .inl _ => (Qg n x0) | .inr r => some r))))
theorem zJx (n : Nat) (x0 : Net) (r : Bool) (H : QU n x0 = some r) : zH Try.prog 95 [.val true (CV.frzRow (Net.row x0))] [.val false [.lit (.bool r)]] [] := by
 refine cW Try.func95 (fun g d => sl [g 0,sl [g 1] (cn 21 (sl [g 2] .ret) .skip),sl [g 3] (.block 0 (.loop (sl [g 4,cn 26 .skip (.exit 0),.block 1 (sl [g 5,sl [g 6] (cn 32 (sl [g 7] .ret) .skip),sl [g 8] (.block 2 (.loop (sl [g 9,cn 39 .skip (.exit 2),.block 3 (sl [g 10,g 11] (cn 46 (sl [g 12] .ret) .skip))] (g 13)))),g 14] (.block 4 (.loop (sl [g 15,cn 52 .skip (.exit 4),.block 5 (sl [g 16,g 17] (cn 65 (sl [g 18] .ret) .skip))] (g 19)))))] (g 20)))),sl [g 21] (.block 6 (.loop (sl [g 22,cn 72 .skip (.exit 6),.block 7 (sl [g 23,g 24] (cn 88 (sl [g 25] .ret) .skip))] (g 26)))),g 27] .ret) [.tmp 2] fun cx => ?_
 unfold QU at H
 refine gA 2 6 2 ?_
 refine tS ?_
 refine rA 2 ?_
 refine kF x0.Bs zA.row ?_
 obtain ⟨r1,er1,H⟩ := bs H
 refine vA [.rd,.rd,.rd] (qN n (x0.Bs.length : Int) 1 6 r1 er1) ?_
 refine lA 2 ?_
 refine sL 65542 2 ⟨92,0,[sB 16 (!r1),sB 2 false,sA 1 1 3 0],[(1,(CV.frzRow (Net.row x0)))]⟩ ?_
 cases h1 : (!r1)
 ·have H := zF h1 H
  refine lA 2 ?_
  refine kF x0.Said Say.row ?_
  refine uA 2 2097158 2 ?_
  obtain ⟨h2,H⟩ | ⟨h2,H⟩ := bC H
  ·refine nA h2 ?_
   refine tK ?_
   refine tS ?_
   refine rA 2 ?_
   refine kF x0.Bs zA.row ?_
   refine uA 1 58720262 2 ?_
   obtain ⟨o9,eo9,Ho9⟩ := bs H
   clear H
   refine Tr.mid (ι := Unit) (fun v => ⟨92,0,[sB 2 false,sA 1 1 3 0],[(1,(CV.frzRow (Net.row x0)))]⟩) (fun v => Qg n x0 = some r) ?_ ?_
   ·refine tB ?_
    refine Tr.loop (ι := Nat × (Int)) (fun v => ⟨92,0,[sI 25 v.2,sI 24 (x0.Bs.length : Int),sC 23 (cF 11 x0.Bs zA.row),sB 2 false,sA 1 1 3 0],[(1,(CV.frzRow (Net.row x0)))]⟩) (fun v => zr n v.1 x0 v.2 = some o9) (fun v => v.1) (n,0) eo9 (St.sub_of [25,24,23,2,1] [1] kr) ?_
    rintro ⟨mo9,y2⟩ H
    have H : zr n mo9 x0 y2 = some o9 := H
    obtain _ | mo9 := mo9
    ·exact nN H
    rw [zr] at H
    refine gA 1 125829126 2 ?_
    refine tS ?_
    obtain ⟨h6,H⟩ | ⟨h6,H⟩ := bC H
    ·refine nA h6 ?_
     refine Tr.exit ?_
     refine aJ ?_
     obtain rfl := si H
     have H := Ho9
     dsimp only at H
     exact jA () H [2,1] [1]
    refine tA h6 ?_
    refine tK ?_
    refine tS ?_
    refine tB ?_
    refine rA 1 ?_
    obtain ⟨v10,ev10,H⟩ := bs H
    refine iA zA.row ev10 ?_
    refine uA 4 1065353246 18 ?_
    refine tS ?_
    refine rA 1 ?_
    obtain ⟨r11,er11,H⟩ := bs H
    refine vA [.rd] (zCU n v10 r11 er11) ?_
    refine uA 1 8581546014 18 ?_
    obtain ⟨h7,H⟩ | ⟨h7,H⟩ := bC H
    ·refine nA h7 ?_
     refine tK ?_
     refine tS ?_
     refine rA 3 ?_
     obtain ⟨hg12,H⟩ := gs H
     refine LAt.cutG tOk (t := 42) (ty := 42) (e := 31) (x := (.tmp 34)) (lo := none) (hi := (some (.tmp 35))) (d := 36) (g := none) (tI 31) zA.row x0.Bs ⟨(.slot 34),[],0,false,11,(CV.frzEs (x0.Bs.map zA.row))⟩ 0 y2 kr kr kr kr kr kr rfl kr rfl kr kr hg12 ?_
     refine kF ((x0.Bs.drop ((0 : Int)).toNat).take (((y2 : Int)).toNat - ((0 : Int)).toNat)) zA.row ?_
     refine uA 1 549747425310 18 ?_
     refine sT ⟨92,0,[sI 38 0,sI 37 (((x0.Bs.drop ((0 : Int)).toNat).take (((y2 : Int)).toNat - ((0 : Int)).toNat)).length : Int),sC 36 (cF 11 ((x0.Bs.drop ((0 : Int)).toNat).take (((y2 : Int)).toNat - ((0 : Int)).toNat)) zA.row),sI 35 y2,sC 34 (cF 11 x0.Bs zA.row),sA 33 1 3 0,sB 32 (!r11),sB 31 r11,sV 30 (CV.frzRow (zA.row v10)),sI 3 y2,sA 4 4 11 0,sV 29 (CV.frzRow (zA.row v10)),(28,.fad ((CV.frzRow (zA.row v10)))),sI 27 y2,sB 26 (decide (y2 < (x0.Bs.length : Int))),sI 25 y2,sI 24 (x0.Bs.length : Int),sC 23 (cF 11 x0.Bs zA.row),sB 2 false,sA 1 1 3 0],[(4,(CV.frzRow (zA.row v10))),(1,(CV.frzRow (Net.row x0)))]⟩ ?_
     rw [h6]
     rw [h7]
     obtain ⟨o20,eo20,Ho20⟩ := bs H
     clear H
     refine Tr.mid (ι := Int) (fun v => ⟨92,0,[sB 39 false,sI 38 v,sI 37 (((x0.Bs.drop ((0 : Int)).toNat).take (((y2 : Int)).toNat - ((0 : Int)).toNat)).length : Int),sC 36 (cF 11 ((x0.Bs.drop ((0 : Int)).toNat).take (((y2 : Int)).toNat - ((0 : Int)).toNat)) zA.row),sI 35 y2,sC 34 (cF 11 x0.Bs zA.row),sA 33 1 3 0,sB 32 false,sB 31 r11,sV 30 (CV.frzRow (zA.row v10)),sI 3 y2,sA 4 4 11 0,sV 29 (CV.frzRow (zA.row v10)),(28,.fad ((CV.frzRow (zA.row v10)))),sI 27 y2,sB 26 true,sI 25 y2,sI 24 (x0.Bs.length : Int),sC 23 (cF 11 x0.Bs zA.row),sB 2 false,sA 1 1 3 0],[(4,(CV.frzRow (zA.row v10))),(1,(CV.frzRow (Net.row x0)))]⟩) (fun v => JT n (fun v => zr n mo9 x0 v) v10 x0 y2 v = some o9) ?_ ?_
     ·refine tB ?_
      refine Tr.loop (ι := Nat × (Int)) (fun v => ⟨92,0,[sI 38 v.2,sI 37 (((x0.Bs.drop ((0 : Int)).toNat).take (((y2 : Int)).toNat - ((0 : Int)).toNat)).length : Int),sC 36 (cF 11 ((x0.Bs.drop ((0 : Int)).toNat).take (((y2 : Int)).toNat - ((0 : Int)).toNat)) zA.row),sI 35 y2,sC 34 (cF 11 x0.Bs zA.row),sA 33 1 3 0,sB 32 false,sB 31 r11,sV 30 (CV.frzRow (zA.row v10)),sI 3 y2,sA 4 4 11 0,sV 29 (CV.frzRow (zA.row v10)),(28,.fad ((CV.frzRow (zA.row v10)))),sI 27 y2,sB 26 true,sI 25 y2,sI 24 (x0.Bs.length : Int),sC 23 (cF 11 x0.Bs zA.row),sB 2 false,sA 1 1 3 0],[(4,(CV.frzRow (zA.row v10))),(1,(CV.frzRow (Net.row x0)))]⟩) (fun v => Zd n v.1 v10 x0 y2 v.2 = some o20) (fun v => v.1) (n,0) eo20 (St.sub_of [38,37,36,35,34,33,32,31,30,3,4,29,28,27,26,25,24,23,2,1] [4,1] kr) ?_
      rintro ⟨mo20,y13⟩ H
      have H : Zd n mo20 v10 x0 y2 y13 = some o20 := H
      obtain _ | mo20 := mo20
      ·exact nN H
      rw [Zd] at H
      refine gA 1 0xffff80001e 18 ?_
      refine tS ?_
      obtain ⟨h11,H⟩ | ⟨h11,H⟩ := bC H
      ·refine nA h11 ?_
       refine Tr.exit ?_
       refine aJ ?_
       obtain rfl := si H
       have H := Ho20
       dsimp only at H
       refine sB' 0xffff80001e 18 ⟨92,0,[sB 39 (decide (y13 < (((x0.Bs.drop ((0 : Int)).toNat).take (((y2 : Int)).toNat - ((0 : Int)).toNat)).length : Int))),sI 38 y13,sI 37 (((x0.Bs.drop ((0 : Int)).toNat).take (((y2 : Int)).toNat - ((0 : Int)).toNat)).length : Int),sC 36 (cF 11 ((x0.Bs.drop ((0 : Int)).toNat).take (((y2 : Int)).toNat - ((0 : Int)).toNat)) zA.row),sI 35 y2,sC 34 (cF 11 x0.Bs zA.row),sA 33 1 3 0,sB 32 false,sB 31 r11,sV 30 (CV.frzRow (zA.row v10)),sI 3 y2,sA 4 4 11 0,sV 29 (CV.frzRow (zA.row v10)),(28,.fad ((CV.frzRow (zA.row v10)))),sI 27 y2,sB 26 true,sI 25 y2,sI 24 (x0.Bs.length : Int),sC 23 (cF 11 x0.Bs zA.row),sB 2 false,sA 1 1 3 0],[(4,(CV.frzRow (zA.row v10))),(1,(CV.frzRow (Net.row x0)))]⟩ ?_
       rw [h11]
       exact jA y13 H [39,38,37,36,35,34,33,32,31,30,3,4,29,28,27,26,25,24,23,2,1] [4,1]
      refine tA h11 ?_
      refine tK ?_
      refine tS ?_
      refine tB ?_
      refine tR ?_
      obtain ⟨v21,ev21,H⟩ := bs H
      refine iA zA.row ev21 ?_
      refine uA 3 4398038122590 82 ?_
      refine gA 5 0x7fffff80005e 82 ?_
      obtain ⟨h12,H⟩ | ⟨h12,H⟩ := bC H
      ·refine nA h12 ?_
       refine tK ?_
       refine eA 2 0xffffff80005e 82 ?_
       exact jB mo20 (IntKind.wrap .i64 (y13 + 1)) H [38,37,36,35,34,33,32,31,30,3,4,29,28,27,26,25,24,23,2,1] [4,1]
      refine tA h12 ?_
      refine gA 1 0x7fffff80005e 82 ?_
      refine te ?_
      obtain rfl := si H
      have H := Ho20
      dsimp only at H
      obtain rfl := si H
      have H := Ho9
      dsimp only at H
      exact fF H
     rintro y14 H
     have H : (JT n (fun v => zr n mo9 x0 v) v10 x0 y2 y14) = some o9 := H
     unfold JT at H
     refine rA 2 ?_
     refine kF v10.Ps Pt.row ?_
     refine uA 1 0xf00ffff80001e 18 ?_
     obtain ⟨o17,eo17,Ho17⟩ := bs H
     clear H
     refine Tr.mid (ι := Int) (fun v => ⟨92,0,[sB 52 false,sI 51 v,sI 50 (v10.Ps.length : Int),sC 49 (cF 8 v10.Ps Pt.row),sA 48 4 11 2,sB 39 false,sI 38 y14,sI 37 (((x0.Bs.drop ((0 : Int)).toNat).take (((y2 : Int)).toNat - ((0 : Int)).toNat)).length : Int),sC 36 (cF 11 ((x0.Bs.drop ((0 : Int)).toNat).take (((y2 : Int)).toNat - ((0 : Int)).toNat)) zA.row),sI 35 y2,sC 34 (cF 11 x0.Bs zA.row),sA 33 1 3 0,sB 32 false,sB 31 r11,sV 30 (CV.frzRow (zA.row v10)),sI 3 y2,sA 4 4 11 0,sV 29 (CV.frzRow (zA.row v10)),(28,.fad ((CV.frzRow (zA.row v10)))),sI 27 y2,sB 26 true,sI 25 y2,sI 24 (x0.Bs.length : Int),sC 23 (cF 11 x0.Bs zA.row),sB 2 false,sA 1 1 3 0],[(4,(CV.frzRow (zA.row v10))),(1,(CV.frzRow (Net.row x0)))]⟩) (fun v => JU n (fun v => zr n mo9 x0 v) y2 v = some o9) ?_ ?_
     ·refine tB ?_
      refine Tr.loop (ι := Nat × (Int)) (fun v => ⟨92,0,[sI 51 v.2,sI 50 (v10.Ps.length : Int),sC 49 (cF 8 v10.Ps Pt.row),sA 48 4 11 2,sB 39 false,sI 38 y14,sI 37 (((x0.Bs.drop ((0 : Int)).toNat).take (((y2 : Int)).toNat - ((0 : Int)).toNat)).length : Int),sC 36 (cF 11 ((x0.Bs.drop ((0 : Int)).toNat).take (((y2 : Int)).toNat - ((0 : Int)).toNat)) zA.row),sI 35 y2,sC 34 (cF 11 x0.Bs zA.row),sA 33 1 3 0,sB 32 false,sB 31 r11,sV 30 (CV.frzRow (zA.row v10)),sI 3 y2,sA 4 4 11 0,sV 29 (CV.frzRow (zA.row v10)),(28,.fad ((CV.frzRow (zA.row v10)))),sI 27 y2,sB 26 true,sI 25 y2,sI 24 (x0.Bs.length : Int),sC 23 (cF 11 x0.Bs zA.row),sB 2 false,sA 1 1 3 0],[(4,(CV.frzRow (zA.row v10))),(1,(CV.frzRow (Net.row x0)))]⟩) (fun v => ZH n v.1 v10 x0 y2 v.2 = some o17) (fun v => v.1) (n,0) eo17 (St.sub_of [51,50,49,48,39,38,37,36,35,34,33,32,31,30,3,4,29,28,27,26,25,24,23,2,1] [4,1] kr) ?_
      rintro ⟨mo17,y15⟩ H
      have H : ZH n mo17 v10 x0 y2 y15 = some o17 := H
      obtain _ | mo17 := mo17
      ·exact nN H
      rw [ZH] at H
      refine gA 1 8726823781269534 18 ?_
      refine tS ?_
      obtain ⟨h8,H⟩ | ⟨h8,H⟩ := bC H
      ·refine nA h8 ?_
       refine Tr.exit ?_
       refine aJ ?_
       obtain rfl := si H
       have H := Ho17
       dsimp only at H
       refine sB' 8726823781269534 18 ⟨92,0,[sB 52 (decide (y15 < (v10.Ps.length : Int))),sI 51 y15,sI 50 (v10.Ps.length : Int),sC 49 (cF 8 v10.Ps Pt.row),sA 48 4 11 2,sB 39 false,sI 38 y14,sI 37 (((x0.Bs.drop ((0 : Int)).toNat).take (((y2 : Int)).toNat - ((0 : Int)).toNat)).length : Int),sC 36 (cF 11 ((x0.Bs.drop ((0 : Int)).toNat).take (((y2 : Int)).toNat - ((0 : Int)).toNat)) zA.row),sI 35 y2,sC 34 (cF 11 x0.Bs zA.row),sA 33 1 3 0,sB 32 false,sB 31 r11,sV 30 (CV.frzRow (zA.row v10)),sI 3 y2,sA 4 4 11 0,sV 29 (CV.frzRow (zA.row v10)),(28,.fad ((CV.frzRow (zA.row v10)))),sI 27 y2,sB 26 true,sI 25 y2,sI 24 (x0.Bs.length : Int),sC 23 (cF 11 x0.Bs zA.row),sB 2 false,sA 1 1 3 0],[(4,(CV.frzRow (zA.row v10))),(1,(CV.frzRow (Net.row x0)))]⟩ ?_
       rw [h8]
       exact jA y15 H [52,51,50,49,48,39,38,37,36,35,34,33,32,31,30,3,4,29,28,27,26,25,24,23,2,1] [4,1]
      refine tA h8 ?_
      refine tK ?_
      refine tS ?_
      refine tB ?_
      refine rA 1 ?_
      obtain ⟨v18,ev18,H⟩ := bs H
      refine iA Pt.row ev18 ?_
      refine uA 4 0xff00ffff80019e 274 ?_
      refine rA 3 ?_
      refine sL 0x7ff00ffff80019e 274 ⟨92,0,[sB 58 v18.Has,sB 57 v18.Has,sA 56 8 8 2,sI 7 y15,sA 8 8 8 0,sV 55 (Pt.row v18),(54,.fad ((Pt.row v18))),sI 53 y15,sB 52 (decide (y15 < (v10.Ps.length : Int))),sI 51 y15,sI 50 (v10.Ps.length : Int),sC 49 (cF 8 v10.Ps Pt.row),sA 48 4 11 2,sB 39 false,sI 38 y14,sI 37 (((x0.Bs.drop ((0 : Int)).toNat).take (((y2 : Int)).toNat - ((0 : Int)).toNat)).length : Int),sC 36 (cF 11 ((x0.Bs.drop ((0 : Int)).toNat).take (((y2 : Int)).toNat - ((0 : Int)).toNat)) zA.row),sI 35 y2,sC 34 (cF 11 x0.Bs zA.row),sA 33 1 3 0,sB 32 false,sB 31 r11,sV 30 (CV.frzRow (zA.row v10)),sI 3 y2,sA 4 4 11 0,sV 29 (CV.frzRow (zA.row v10)),(28,.fad ((CV.frzRow (zA.row v10)))),sI 27 y2,sB 26 true,sI 25 y2,sI 24 (x0.Bs.length : Int),sC 23 (cF 11 x0.Bs zA.row),sB 2 false,sA 1 1 3 0],[(8,(Pt.row v18)),(4,(CV.frzRow (zA.row v10))),(1,(CV.frzRow (Net.row x0)))]⟩ ?_
      cases h9 : v18.Has
      ·have H := zF h9 H
       refine uA 7 0x3ffff00ffff80019e 274 ?_
       refine nB_ ?_
       refine tK ?_
       refine eA 2 0x7ffff00ffff80019e 274 ?_
       exact jB mo17 (IntKind.wrap .i64 (y15 + 1)) H [51,50,49,48,39,38,37,36,35,34,33,32,31,30,3,4,29,28,27,26,25,24,23,2,1] [4,1]
      have H := zG h9 H
      refine lA 4 ?_
      obtain ⟨r19,er19,H⟩ := bs H
      refine vA [.rd,.rd,.rd] (zDO n x0.Ls y2 y15 r19 er19) ?_
      refine uA 2 0x3ffff00ffff80019e 274 ?_
      obtain ⟨h10,H⟩ | ⟨h10,H⟩ := bC H
      ·refine nA h10 ?_
       refine tK ?_
       refine eA 2 0x7ffff00ffff80019e 274 ?_
       exact jB mo17 (IntKind.wrap .i64 (y15 + 1)) H [51,50,49,48,39,38,37,36,35,34,33,32,31,30,3,4,29,28,27,26,25,24,23,2,1] [4,1]
      refine tA h10 ?_
      refine gA 1 0x3ffff00ffff80019e 274 ?_
      refine te ?_
      obtain rfl := si H
      have H := Ho17
      dsimp only at H
      obtain rfl := si H
      have H := Ho9
      dsimp only at H
      exact fF H
     rintro y16 H
     have H : (JU n (fun v => zr n mo9 x0 v) y2 y16) = some o9 := H
     unfold JU at H
     refine eA 2 0x8001f00ffff80001e 18 ?_
     exact jB mo9 (IntKind.wrap .i64 (y2 + 1)) H [25,24,23,2,1] [1]
    refine tA h7 ?_
    refine gA 1 8581546014 18 ?_
    refine te ?_
    obtain rfl := si H
    have H := Ho9
    dsimp only at H
    exact fF H
   rintro _ H
   have H : (Qg n x0) = some r := H
   unfold Qg at H
   refine tS ?_
   refine rA 2 ?_
   refine kF x0.Said Say.row ?_
   refine uA 1 0xe00000000000000006 2 ?_
   obtain ⟨o5,eo5,Ho5⟩ := bs H
   clear H
   refine Tr.mid (ι := Unit) (fun v => ⟨92,0,[sB 2 false,sA 1 1 3 0],[(1,(CV.frzRow (Net.row x0)))]⟩) (fun v => Ya n x0 = some r) ?_ ?_
   ·refine tB ?_
    refine Tr.loop (ι := Nat × (Int)) (fun v => ⟨92,0,[sI 71 v.2,sI 70 (x0.Said.length : Int),sC 69 (cF 7 x0.Said Say.row),sB 2 false,sA 1 1 3 0],[(1,(CV.frzRow (Net.row x0)))]⟩) (fun v => qJ n v.1 x0 v.2 = some o5) (fun v => v.1) (n,0) eo5 (St.sub_of [71,70,69,2,1] [1] kr) ?_
    rintro ⟨mo5,y3⟩ H
    have H : qJ n mo5 x0 y3 = some o5 := H
    obtain _ | mo5 := mo5
    ·exact nN H
    rw [qJ] at H
    refine gA 1 0x1e00000000000000006 2 ?_
    refine tS ?_
    obtain ⟨h3,H⟩ | ⟨h3,H⟩ := bC H
    ·refine nA h3 ?_
     refine Tr.exit ?_
     refine aJ ?_
     obtain rfl := si H
     have H := Ho5
     dsimp only at H
     exact jA () H [2,1] [1]
    refine tA h3 ?_
    refine tK ?_
    refine tS ?_
    refine tB ?_
    refine tR ?_
    obtain ⟨v6,ev6,H⟩ := bs H
    refine iA Say.row ev6 ?_
    refine uA 3 0x7e00000000000000406 1026 ?_
    refine rA 4 ?_
    refine kF x0.Ls Link.row ?_
    refine lA 1 ?_
    obtain ⟨r7,er7,H⟩ := bs H
    refine vA [.rd,.rd,.rd] (qN n v6.Link 0 (IntKind.wrap .i64 ((x0.Ls.length : Int) - 1)) r7 er7) ?_
    refine lA 2 ?_
    refine sL 0xfffe00000000000000406 1026 ⟨92,0,[sB 83 (!r7),sB 82 (!r7),sB 81 r7,sI 80 (IntKind.wrap .i64 ((x0.Ls.length : Int) - 1)),sI 79 (x0.Ls.length : Int),sC 78 (cF 4 x0.Ls Link.row),sA 77 1 3 1,sI 76 v6.Link,sA 75 10 7 0,sA 10 10 7 0,sV 74 (Say.row v6),(73,.fad ((Say.row v6))),sB 72 (decide (y3 < (x0.Said.length : Int))),sI 71 y3,sI 70 (x0.Said.length : Int),sC 69 (cF 7 x0.Said Say.row),sB 2 false,sA 1 1 3 0],[(10,(Say.row v6)),(1,(CV.frzRow (Net.row x0)))]⟩ ?_
    cases h4 : (!r7)
    ·have H := zF h4 H
     refine lA 2 ?_
     obtain ⟨r8,er8,H⟩ := bs H
     refine vA [.rd] (zBN n v6.V r8 er8) ?_
     refine uA 2 0x1ffffe00000000000000406 1026 ?_
     obtain ⟨h5,H⟩ | ⟨h5,H⟩ := bC H
     ·refine nA h5 ?_
      refine tK ?_
      refine eA 2 0x3ffffe00000000000000406 1026 ?_
      exact jB mo5 (IntKind.wrap .i64 (y3 + 1)) H [71,70,69,2,1] [1]
     refine tA h5 ?_
     refine gA 1 0x1ffffe00000000000000406 1026 ?_
     refine te ?_
     obtain rfl := si H
     have H := Ho5
     dsimp only at H
     exact fF H
    have H := zG h4 H
    refine uA 5 0x1ffffe00000000000000406 1026 ?_
    refine tB_ ?_
    refine gA 1 0x1ffffe00000000000000406 1026 ?_
    refine te ?_
    obtain rfl := si H
    have H := Ho5
    dsimp only at H
    exact fF H
   rintro _ H
   have H : (Ya n x0) = some r := H
   unfold Ya at H
   refine rA 1 ?_
   obtain ⟨r4,er4,H⟩ := bs H
   refine vA [.rd] (zId n x0 r4 er4) ?_
   refine uA 1 4 0 ?_
   exact te (fJ [(false,[cB r4])] H)
  refine tA h2 ?_
  refine gA 1 6 2 ?_
  exact te (fF H)
 have H := zG h1 H
 refine uA 5 2097158 2 ?_
 refine tB_ ?_
 refine gA 1 6 2 ?_
 exact te (fF H)
def qd (n : Nat) (x0 : Net) (x1 : Int) : Option (Bool) :=
  ((qI n x1 0 (IntKind.wrap .i64 ((x0.Ls.length : Int) - 1))).bind fun r1 => (bif (!r1) then (some false) else ((idx x0.Ls x1).bind fun v2 => ((idx x0.Ls x1).bind fun v3 => ((Z8 n x0 v2.A v3.P).bind fun r4 => ((idx x0.Ls x1).bind fun v5 => ((idx x0.Ls x1).bind fun v6 => ((Z8 n x0 v5.B v6.Q).bind fun r7 => (bif r4.2 then (bif r7.2 then (bif r4.1.Up then (some r7.1.Up) else (some false)) else (some false)) else (some false))))))))))
def zMb : Tab := ⟨20,[0,0,2,0,12,16,32,0,128,0,768,1024,2048,4161,8192,16384,16384,0,196607,524287],[0,0,2,0,12,16,32,0,128,0,768,1024,2048,4161,8192,16384,16384,0,163840,65536],[0,0,2,0,14,30,62,0,128,0,896,1920,3968,8191,16383,32767,32767,0,196607,524287]⟩
theorem Q0 : zY (rg Try.f30 3) zMb = true := kr
def zMc : Tab := ⟨20,[0,0,2,0,12,16,32,0,128,0,768,1024,2048,4161,8192,16384,16384,0,196607,524287],[0,0,2,0,12,16,32,0,128,0,768,1024,2048,4161,8192,16384,16384,0,163840,65536],[0,0,2,0,14,30,62,0,128,0,896,1920,3968,8191,16383,32767,32767,0,196607,524287]⟩
theorem Q1 : zY (rg Try.f30 4) zMc = true := kr
theorem zAg (n : Nat) (x0 : Net) (x1 : Int) (r : Bool) (H : qd n x0 x1 = some r) : zH Try.prog 30 [.val true (CV.frzRow (Net.row x0)),.val false [.lit (.int .i64 x1)]] [.val false [.lit (.bool r)]] [] := by
 refine cW Try.func30 (fun g d => sl [g 0,sl [g 1] (cn 15 (sl [g 2] .ret) .skip),d 3,d 4,g 5] .ret) [.tmp 4] fun cx => ?_
 unfold qd at H
 refine gA 2 6 4 ?_
 refine tS ?_
 refine rA 3 ?_
 refine kF x0.Ls Link.row ?_
 refine lA 1 ?_
 obtain ⟨r1,er1,H⟩ := bs H
 refine vA [.rd,.rd,.rd] (qN n x1 0 (IntKind.wrap .i64 ((x0.Ls.length : Int) - 1)) r1 er1) ?_
 refine uA 1 32774 4 ?_
 obtain ⟨h1,H⟩ | ⟨h1,H⟩ := bC H
 ·refine nA h1 ?_
  refine tK ?_
  obtain ⟨v2,ev2,H⟩ := bs H
  obtain ⟨v3,ev3,H⟩ := bs H
  obtain ⟨r4,er4,H⟩ := bs H
  refine Tr.draws mixed 20 kr ⟨62,0,[sB 6 r4.2,sA 5 5 8 0,sA 2 2 3 0,sI 1 x1],[(5,(Pt.row r4.1)),(2,(CV.frzRow (Net.row x0)))]⟩ (fun cx => ?_) ?_
  ·refine mA Q0 [(0,[13,18]),(1,[]),(2,[13,18]),(3,[])] 16 [⟨[13,18],65,18,19⟩,⟨[13,18],68,2,17⟩] fun cx => ?_
   refine iN Q0 4 Link.row ev2 fun cx => ?_
   refine mA Q0 [(5,[]),(6,[]),(7,[]),(8,[13,18]),(9,[])] 10 [⟨[13,18],65,24,25⟩,⟨[13,18],65,18,19⟩,⟨[13,18],68,2,17⟩] fun cx => ?_
   refine iN Q0 10 Link.row ev3 fun cx => ?_
   refine mA Q0 [(11,[]),(12,[])] 7 [⟨[13,18],65,24,25⟩,⟨[13,18],65,18,19⟩,⟨[13,18],68,2,17⟩] fun cx => ?_
   refine mB2 tOk Q0 13 17 kr (And.intro kr ?_) (And.intro kr ?_)
   ·refine vA [.rd,.rd,.rd] (Jc n x0 v2.A v3.P r4 er4) ?_
    refine fA ?_
    refine AT.movT tOk 14 (ty := 129) (t := 30) (d := 16) (g := none) [(true,(Pt.row r4.1)),(false,[cB r4.2])] _ kr (oM Q0 kr) (dM Q0 kr) (.inl rfl) kr kr kr kr rfl (fun cx => ?_)
    refine mA Q0 [(15,[]),(16,[])] 3 [⟨[13,18],65,24,25⟩,⟨[13,18],65,18,19⟩,⟨[13,18],68,2,17⟩] fun cx => ?_
    refine mC Q0 17 ?_
    refine lA 1 ?_
    refine fA ?_
    refine mC Q0 18 ?_
    refine lA 1 ?_
    refine fA ?_
    refine mA Q0 [(19,[])] 0 [⟨[13,18],65,24,25⟩,⟨[13,18],65,18,19⟩,⟨[13,18],68,2,17⟩] fun cx => ?_
    exact mE Q0 [6,5,2,1] [5,2]
   ·refine lA 1 ?_
    refine fA ?_
    refine mC Q0 13 ?_
    refine vA [.rd,.rd,.rd] (Jc n x0 v2.A v3.P r4 er4) ?_
    refine fA ?_
    refine AT.movT tOk 14 (ty := 129) (t := 30) (d := 16) (g := none) [(true,(Pt.row r4.1)),(false,[cB r4.2])] _ kr (oM Q0 kr) (dM Q0 kr) (.inl rfl) kr kr kr kr rfl (fun cx => ?_)
    refine mA Q0 [(15,[]),(16,[])] 2 [⟨[13,18],65,24,25⟩,⟨[13,18],65,18,19⟩,⟨[13,18],68,2,17⟩] fun cx => ?_
    refine mC Q0 18 ?_
    refine lA 1 ?_
    refine fA ?_
    refine mA Q0 [(19,[])] 0 [⟨[13,18],65,24,25⟩,⟨[13,18],65,18,19⟩,⟨[13,18],68,2,17⟩] fun cx => ?_
    exact mE Q0 [6,5,2,1] [5,2]
  obtain ⟨v5,ev5,H⟩ := bs H
  obtain ⟨v6,ev6,H⟩ := bs H
  obtain ⟨r7,er7,H⟩ := bs H
  refine Tr.draws mixed 20 kr ⟨62,0,[sB 8 r7.2,sA 7 7 8 0,sB 6 r4.2,sA 5 5 8 0],[(7,(Pt.row r7.1)),(5,(Pt.row r4.1))]⟩ (fun cx => ?_) ?_
  ·refine mA Q1 [(0,[13,18]),(1,[]),(2,[13,18]),(3,[])] 16 [⟨[13,18],65,35,36⟩,⟨[13,18],68,2,34⟩] fun cx => ?_
   refine iN Q1 4 Link.row ev5 fun cx => ?_
   refine mA Q1 [(5,[]),(6,[]),(7,[]),(8,[13,18]),(9,[])] 10 [⟨[13,18],65,41,42⟩,⟨[13,18],65,35,36⟩,⟨[13,18],68,2,34⟩] fun cx => ?_
   refine iN Q1 10 Link.row ev6 fun cx => ?_
   refine mA Q1 [(11,[]),(12,[])] 7 [⟨[13,18],65,41,42⟩,⟨[13,18],65,35,36⟩,⟨[13,18],68,2,34⟩] fun cx => ?_
   refine mB2 tOk Q1 13 17 kr (And.intro kr ?_) (And.intro kr ?_)
   ·refine vA [.rd,.rd,.rd] (Jc n x0 v5.B v6.Q r7 er7) ?_
    refine fA ?_
    refine AT.movT tOk 14 (ty := 129) (t := 47) (d := 33) (g := none) [(true,(Pt.row r7.1)),(false,[cB r7.2])] _ kr (oM Q1 kr) (dM Q1 kr) (.inl rfl) kr kr kr kr rfl (fun cx => ?_)
    refine mA Q1 [(15,[]),(16,[])] 3 [⟨[13,18],65,41,42⟩,⟨[13,18],65,35,36⟩,⟨[13,18],68,2,34⟩] fun cx => ?_
    refine mC Q1 17 ?_
    refine lA 1 ?_
    refine fA ?_
    refine mC Q1 18 ?_
    refine lA 1 ?_
    refine fA ?_
    refine mA Q1 [(19,[])] 0 [⟨[13,18],65,41,42⟩,⟨[13,18],65,35,36⟩,⟨[13,18],68,2,34⟩] fun cx => ?_
    exact mE Q1 [8,7,6,5] [7,5]
   ·refine lA 1 ?_
    refine fA ?_
    refine mC Q1 13 ?_
    refine vA [.rd,.rd,.rd] (Jc n x0 v5.B v6.Q r7 er7) ?_
    refine fA ?_
    refine AT.movT tOk 14 (ty := 129) (t := 47) (d := 33) (g := none) [(true,(Pt.row r7.1)),(false,[cB r7.2])] _ kr (oM Q1 kr) (dM Q1 kr) (.inl rfl) kr kr kr kr rfl (fun cx => ?_)
    refine mA Q1 [(15,[]),(16,[])] 2 [⟨[13,18],65,41,42⟩,⟨[13,18],65,35,36⟩,⟨[13,18],68,2,34⟩] fun cx => ?_
    refine mC Q1 18 ?_
    refine lA 1 ?_
    refine fA ?_
    refine mA Q1 [(19,[])] 0 [⟨[13,18],65,41,42⟩,⟨[13,18],65,35,36⟩,⟨[13,18],68,2,34⟩] fun cx => ?_
    exact mE Q1 [8,7,6,5] [7,5]
  refine rA 2 ?_
  refine sL 0x80000000001a0 160 ⟨62,0,[sB 51 r4.2,sB 8 r7.2,sA 7 7 8 0,sA 5 5 8 0],[(7,(Pt.row r7.1)),(5,(Pt.row r4.1))]⟩ ?_
  cases h2 : r4.2
  ·have H := zF h2 H
   refine uA 11 16 0 ?_
   exact te (fF H)
  have H := zG h2 H
  refine lA 3 ?_
  refine sL 0x400000000000a0 160 ⟨62,0,[sB 54 r7.2,sA 7 7 8 0,sA 5 5 8 0],[(7,(Pt.row r7.1)),(5,(Pt.row r4.1))]⟩ ?_
  cases h3 : r7.2
  ·have H := zF h3 H
   refine uA 8 16 0 ?_
   exact te (fF H)
  have H := zG h3 H
  refine lA 4 ?_
  refine sL 0x400000000000080 128 ⟨62,0,[sB 58 r4.1.Up,sA 7 7 8 0],[(7,(Pt.row r7.1))]⟩ ?_
  cases h4 : r4.1.Up
  ·have H := zF h4 H
   refine uA 4 16 0 ?_
   exact te (fF H)
  have H := zG h4 H
  refine uA 4 16 0 ?_
  exact te (fJ [(false,[cB r7.1.Up])] H)
 refine tA h1 ?_
 refine gA 1 16 0 ?_
 exact te (fF H)
def zAv (n : Nat) (x0 : Vec) (x1 : Int) : Option (Vec × Bool) :=
  ((YF n x0).bind fun r1 => (bif (!r1) then (some (x0,false)) else ((qI n x1 1 1000).bind fun r2 => (bif (!r2) then (some (x0,false)) else ((YF n (⟨x0.Root,(IntKind.wrap .i64 (x0.Co + x1)),(IntKind.wrap .i64 (x0.Hops + 1)),x0.Bridge,x0.Port⟩ : Vec)).bind fun r3 => (bif (!r3) then (some (x0,false)) else (some ((⟨x0.Root,(IntKind.wrap .i64 (x0.Co + x1)),(IntKind.wrap .i64 (x0.Hops + 1)),x0.Bridge,x0.Port⟩ : Vec),true))))))))
theorem zIZ (n : Nat) (x0 : Vec) (x1 : Int) (r : Vec × Bool) (H : zAv n x0 x1 = some r) : zH Try.prog 160 [.val true (CV.frzRow (Vec.row x0)),.val false [.lit (.int .i64 x1)]] [.val true (Vec.row r.1),.val false [.lit (.bool r.2)]] [] := by
 refine cW Try.func160 (fun g d => sl [g 0,sl [g 1] (cn 14 (sl [g 2] .ret) .skip),g 3,g 4,g 5,sl [g 6] (cn 28 (sl [g 7] .ret) .skip),g 8] .ret) [.cell 4 35,.tmp 5] fun cx => ?_
 unfold zAv at H
 refine gA 3 22 20 ?_
 refine tS ?_
 refine rA 1 ?_
 obtain ⟨r1,er1,H⟩ := bs H
 refine vA [.rd] (zBN n x0 r1 er1) ?_
 refine lA 2 ?_
 refine sL 1046 20 ⟨31,0,[sB 10 (!r1),sA 4 4 5 0,sA 2 2 5 0,sI 1 x1],[(4,[cI 0,cI 0,cI 0,cI 0,cI 0]),(2,(Vec.row x0))]⟩ ?_
 cases h1 : (!r1)
 ·have H := zF h1 H
  refine lA 1 ?_
  obtain ⟨r2,er2,H⟩ := bs H
  refine vA [.rd,.rd,.rd] (qN n x1 1 1000 r2 er2) ?_
  refine uA 2 16406 20 ?_
  obtain ⟨h2,H⟩ | ⟨h2,H⟩ := bC H
  ·refine nA h2 ?_
   refine tK ?_
   refine gA 3 86 84 ?_
   refine gA 6 84 84 ?_
   refine gA 5 84 84 ?_
   refine tS ?_
   refine rA 1 ?_
   obtain ⟨r3,er3,H⟩ := bs H
   refine vA [.rd] (zBN n (⟨x0.Root,(IntKind.wrap .i64 (x0.Co + x1)),(IntKind.wrap .i64 (x0.Hops + 1)),x0.Bridge,x0.Port⟩ : Vec) r3 er3) ?_
   refine uA 1 268435540 84 ?_
   obtain ⟨h3,H⟩ | ⟨h3,H⟩ := bC H
   ·refine nA h3 ?_
    refine tK ?_
    refine gA 3 48 16 ?_
    exact te (fJ [(true,[cI x0.Root,cI (IntKind.wrap .i64 (x0.Co + x1)),cI (IntKind.wrap .i64 (x0.Hops + 1)),cI x0.Bridge,cI x0.Port]),(false,[cB true])] H)
   refine tA h3 ?_
   refine gA 3 48 16 ?_
   exact te (fJ [(true,(Vec.row x0)),(false,[cB false])] H)
  refine tA h2 ?_
  refine gA 3 48 16 ?_
  exact te (fJ [(true,(Vec.row x0)),(false,[cB false])] H)
 have H := zG h1 H
 refine uA 4 16406 20 ?_
 refine tB_ ?_
 refine gA 3 48 16 ?_
 exact te (fJ [(true,(Vec.row x0)),(false,[cB false])] H)
def JS (n : Nat) (x0 : Vec) (x1 : Vec) : Option (Bool) :=
  (bif (x0.Root != x1.Root) then (some (decide (x0.Root < x1.Root))) else (bif (x0.Co != x1.Co) then (some (decide (x0.Co < x1.Co))) else (bif (x0.Bridge != x1.Bridge) then (some (decide (x0.Bridge < x1.Bridge))) else (some (decide (x0.Port < x1.Port))))))
theorem zEt (n : Nat) (x0 : Vec) (x1 : Vec) (r : Bool) (H : JS n x0 x1 = some r) : zH Try.prog 131 [.val true (CV.frzRow (Vec.row x0)),.val true (CV.frzRow (Vec.row x1))] [.val false [.lit (.bool r)]] [] := by
 refine cW Try.func131 (fun g d => sl [g 0,.block 0 (sl [g 1] (cn 5 (sl [g 2] .ret) (sl [g 3] (cn 16 (sl [g 4] .ret) (sl [g 5] (cn 27 (sl [g 6] .ret) .skip)))))),g 7] .ret) [.tmp 4] fun cx => ?_
 unfold JS at H
 refine gA 3 12 12 ?_
 refine tS ?_
 refine tB ?_
 refine gA 6 44 12 ?_
 obtain ⟨h1,H⟩ | ⟨h1,H⟩ := bC H
 ·refine nA h1 ?_
  refine gA 6 65548 12 ?_
  obtain ⟨h2,H⟩ | ⟨h2,H⟩ := bC H
  ·refine nA h2 ?_
   refine gA 6 134217740 12 ?_
   obtain ⟨h3,H⟩ | ⟨h3,H⟩ := bC H
   ·refine nA h3 ?_
    refine tK ?_
    refine gA 6 16 0 ?_
    exact te (fJ [(false,[cB (decide (x0.Port < x1.Port))])] H)
   refine tA h3 ?_
   refine gA 6 16 0 ?_
   exact te (fJ [(false,[cB (decide (x0.Bridge < x1.Bridge))])] H)
  refine tA h2 ?_
  refine gA 6 16 0 ?_
  exact te (fJ [(false,[cB (decide (x0.Co < x1.Co))])] H)
 refine tA h1 ?_
 refine gA 6 16 0 ?_
 exact te (fJ [(false,[cB (decide (x0.Root < x1.Root))])] H)
def Ji (n : Nat) (x0 : Int) (y11 : Int) (y12 : Int) (y13 : Int) (y14 : Int) : Option (Vec × Int) :=
  (some ((⟨y12,y13,y14,x0,0⟩ : Vec),y11))
def Zy (n : Nat) (k : (Int × Int × Int × Int × Int × Int × Int × Int × Int × Int → Option ((Int × Int × Int × Int) ⊕ (Vec × Int)))) (r17 : Vec × Bool) (y1 : Int) (y10 : Int) (y2 : Int) (y3 : Int) (y4 : Int) (y5 : Int) (y6 : Int) (y7 : Int) (y8 : Int) (y9 : Int) (y18 : Bool) (y19 : Bool) (y20 : Bool) (y21 : Bool) (y22 : Bool) (y23 : Bool) (y24 : Bool) : Option ((Int × Int × Int × Int) ⊕ (Vec × Int)) :=
  (bif y18 then (k ((IntKind.wrap .i64 (y1 + 1)),y1,r17.1.Root,r17.1.Co,r17.1.Hops,r17.1.Bridge,r17.1.Port,r17.1.Root,r17.1.Co,r17.1.Hops)) else (k ((IntKind.wrap .i64 (y1 + 1)),y2,y3,y4,y5,y6,y7,y8,y9,y10)))
def qX (n : Nat) : Nat → Int → (List Pt) → Int → Int → Int → Int → Int → Int → Int → Int → Int → Int → Option ((Int × Int × Int × Int) ⊕ (Vec × Int))
  | 0,_,_,_,_,_,_,_,_,_,_,_,_ => none
  | mo15 + 1,x0,x1,y1,y2,y3,y4,y5,y6,y7,y8,y9,y10 => (bif (decide (y1 < (x1.length : Int))) then ((idx x1 y1).bind fun v16 => (bif (!v16.Up) then (qX n mo15 x0 x1 (IntKind.wrap .i64 (y1 + 1)) y2 y3 y4 y5 y6 y7 y8 y9 y10) else (bif (!v16.Has) then (qX n mo15 x0 x1 (IntKind.wrap .i64 (y1 + 1)) y2 y3 y4 y5 y6 y7 y8 y9 y10) else ((zAv n v16.Hd v16.Co).bind fun r17 => (bif r17.2 then (bif (decide (r17.1.Root < x0)) then (bif (decide (y2 < 0)) then (Zy n (fun v => qX n mo15 x0 x1 v.1 v.2.1 v.2.2.1 v.2.2.2.1 v.2.2.2.2.1 v.2.2.2.2.2.1 v.2.2.2.2.2.2.1 v.2.2.2.2.2.2.2.1 v.2.2.2.2.2.2.2.2.1 v.2.2.2.2.2.2.2.2.2) r17 y1 y10 y2 y3 y4 y5 y6 y7 y8 y9 true true true true true true true) else ((JS n r17.1 (⟨y3,y4,y5,y6,y7⟩ : Vec)).bind fun r25 => (Zy n (fun v => qX n mo15 x0 x1 v.1 v.2.1 v.2.2.1 v.2.2.2.1 v.2.2.2.2.1 v.2.2.2.2.2.1 v.2.2.2.2.2.2.1 v.2.2.2.2.2.2.2.1 v.2.2.2.2.2.2.2.2.1 v.2.2.2.2.2.2.2.2.2) r17 y1 y10 y2 y3 y4 y5 y6 y7 y8 y9 r25 true true true true true true))) else (Zy n (fun v => qX n mo15 x0 x1 v.1 v.2.1 v.2.2.1 v.2.2.2.1 v.2.2.2.2.1 v.2.2.2.2.2.1 v.2.2.2.2.2.2.1 v.2.2.2.2.2.2.2.1 v.2.2.2.2.2.2.2.2.1 v.2.2.2.2.2.2.2.2.2) r17 y1 y10 y2 y3 y4 y5 y6 y7 y8 y9 false false false true true true true)) else (Zy n (fun v => qX n mo15 x0 x1 v.1 v.2.1 v.2.2.1 v.2.2.2.1 v.2.2.2.2.1 v.2.2.2.2.2.1 v.2.2.2.2.2.2.1 v.2.2.2.2.2.2.2.1 v.2.2.2.2.2.2.2.2.1 v.2.2.2.2.2.2.2.2.2) r17 y1 y10 y2 y3 y4 y5 y6 y7 y8 y9 false false false false false false false)))))) else (some (Sum.inl (y2,y8,y9,y10))))
def YZ (n : Nat) (x0 : Int) (x1 : (List Pt)) : Option (Vec × Int) :=
  ((qX n n x0 x1 0 (-1) 0 0 0 0 0 x0 0 0).bind fun o => match o with | .inl (y11,y12,y13,y14) => (Ji n x0 y11 y12 y13 y14) | .inr r => some r)
theorem zEr (n : Nat) (x0 : Int) (x1 : (List Pt)) (r : Vec × Int) (H : YZ n x0 x1 = some r) : zH Try.prog 130 [.val false [.lit (.int .i64 x0)],.val false [.sl false 8 (CV.frzEs (x1.map Pt.row))]] [.val true (Vec.row r.1),.val false [.lit (.int .i64 r.2)]] [] := by
 refine cW Try.func130 (fun g d => sl [g 0,g 1,g 2,sl [g 3] (.block 0 (.loop (sl [g 4,cn 19 .skip (.exit 0),.block 1 (sl [g 5,sl [g 6] (cn 30 (.exit 1) .skip),g 7,g 8] (cn 54 (sl [g 9] (g 10)) .skip))] (g 11)))),g 12] .ret) [.cell 4 35,.tmp 5] fun cx => ?_
 unfold YZ at H
 refine gA 2 51 16 ?_
 refine gA 6 243 80 ?_
 refine gA 1 499 336 ?_
 refine tS ?_
 refine rA 1 ?_
 refine kF x1 Pt.row ?_
 refine uA 1 459249 336 ?_
 obtain ⟨o15,eo15,Ho15⟩ := bs H
 clear H
 refine Tr.mid (ι := Int × Int × Int × Int) (fun v => ⟨68,0,[sI 7 v.1,sA 6 6 5 0,sI 5 0,sA 4 4 5 0],[(6,[cI v.2.1,cI v.2.2.1,cI v.2.2.2,cI x0,cI 0]),(4,[cI 0,cI 0,cI 0,cI 0,cI 0])]⟩) (fun v => Ji n x0 v.1 v.2.1 v.2.2.1 v.2.2.2 = some r) ?_ ?_
 ·refine tB ?_
  refine Tr.loop (ι := Nat × (Int × Int × Int × Int × Int × Int × Int × Int × Int × Int)) (fun v => ⟨68,0,[sI 18 v.2.1,sI 17 (x1.length : Int),sC 16 (cF 8 x1 Pt.row),sA 8 8 5 0,sI 7 v.2.2.1,sA 6 6 5 0,sI 5 0,sA 4 4 5 0,sI 0 x0],[(8,[cI v.2.2.2.1,cI v.2.2.2.2.1,cI v.2.2.2.2.2.1,cI v.2.2.2.2.2.2.1,cI v.2.2.2.2.2.2.2.1]),(6,[cI v.2.2.2.2.2.2.2.2.1,cI v.2.2.2.2.2.2.2.2.2.1,cI v.2.2.2.2.2.2.2.2.2.2,cI x0,cI 0]),(4,[cI 0,cI 0,cI 0,cI 0,cI 0])]⟩) (fun v => qX n v.1 x0 x1 v.2.1 v.2.2.1 v.2.2.2.1 v.2.2.2.2.1 v.2.2.2.2.2.1 v.2.2.2.2.2.2.1 v.2.2.2.2.2.2.2.1 v.2.2.2.2.2.2.2.2.1 v.2.2.2.2.2.2.2.2.2.1 v.2.2.2.2.2.2.2.2.2.2 = some o15) (fun v => v.1) (n,(0,(-1),0,0,0,0,0,x0,0,0)) eo15 (St.sub_of [18,17,16,8,7,6,5,4,0] [8,6,4] kr) ?_
  rintro ⟨mo15,y1,y2,y3,y4,y5,y6,y7,y8,y9,y10⟩ H
  have H : qX n mo15 x0 x1 y1 y2 y3 y4 y5 y6 y7 y8 y9 y10 = some o15 := H
  obtain _ | mo15 := mo15
  ·exact nN H
  rw [qX] at H
  refine gA 1 983537 336 ?_
  refine tS ?_
  obtain ⟨h1,H⟩ | ⟨h1,H⟩ := bC H
  ·refine nA h1 ?_
   refine Tr.exit ?_
   refine aJ ?_
   obtain rfl := si H
   have H := Ho15
   dsimp only at H
   exact jA (y2,y8,y9,y10) H [7,6,5,4] [6,4]
  refine tA h1 ?_
  refine tK ?_
  refine tS ?_
  refine tB ?_
  refine rA 1 ?_
  obtain ⟨v16,ev16,H⟩ := bs H
  refine iA Pt.row ev16 ?_
  refine uA 4 8325105 1360 ?_
  refine tS ?_
  refine rA 4 ?_
  refine sL 134154225 1360 ⟨68,0,[sB 26 (!v16.Up),sB 25 (!v16.Up),sB 24 v16.Up,sA 23 10 8 0,sI 9 y1,sA 10 10 8 0,sV 22 (Pt.row v16),(21,.fad ((Pt.row v16))),sI 20 y1,sB 19 (decide (y1 < (x1.length : Int))),sI 18 y1,sI 17 (x1.length : Int),sC 16 (cF 8 x1 Pt.row),sA 8 8 5 0,sI 7 y2,sA 6 6 5 0,sI 5 0,sA 4 4 5 0,sI 0 x0],[(10,(Pt.row v16)),(8,[cI y3,cI y4,cI y5,cI y6,cI y7]),(6,[cI y8,cI y9,cI y10,cI x0,cI 0]),(4,[cI 0,cI 0,cI 0,cI 0,cI 0])]⟩ ?_
  cases h2 : (!v16.Up)
  ·have H := zF h2 H
   refine uA 4 2147420145 1360 ?_
   obtain ⟨h3,H⟩ | ⟨h3,H⟩ := bC H
   ·refine nA h3 ?_
    refine tK ?_
    refine rA 4 ?_
    obtain ⟨r17,er17,H⟩ := bs H
    refine vA [.rd,.rd] (zIZ n v16.Hd v16.Co r17 er17) ?_
    refine LAt.movT tOk (ty := 177) (t := 36) (d := 31) (g := none) [(true,(Vec.row r17.1)),(false,[cB r17.2])] _ kr (.inl rfl) kr kr kr kr rfl ?_
    refine uA 5 481036279793 3408 ?_
    refine tS ?_
    refine Tr.mid (ι := Bool × Bool × Bool × Bool × Bool × Bool × Bool) (fun v => ⟨68,0,[sB 54 v.1,sB 46 v.2.1,sB 45 v.2.2.1,sB 40 v.2.2.2.1,sB 39 v.2.2.2.2.1,sB 12 v.2.2.2.2.2.1,sA 11 11 5 0,sB 38 v.2.2.2.2.2.2,(31,.tup [(true,[.dead,.dead,.dead,.dead,.dead]),(false,[.dead])]),sV 37 (Vec.row r17.1),sI 35 v16.Co,sA 34 10 8 1,sV 33 ((Pt.row v16).drop 3),sA 32 10 8 3,sB 30 false,sB 29 false,sB 28 v16.Has,sA 27 10 8 2,sB 26 false,sB 25 false,sB 24 v16.Up,sA 23 10 8 0,sI 9 y1,sA 10 10 8 0,sV 22 (Pt.row v16),(21,.fad ((Pt.row v16))),sI 20 y1,sB 19 true,sI 18 y1,sI 17 (x1.length : Int),sC 16 (cF 8 x1 Pt.row),sA 8 8 5 0,sI 7 y2,sA 6 6 5 0,sI 5 0,sA 4 4 5 0,sI 0 x0],[(11,(Vec.row r17.1)),(10,(Pt.row v16)),(8,[cI y3,cI y4,cI y5,cI y6,cI y7]),(6,[cI y8,cI y9,cI y10,cI x0,cI 0]),(4,[cI 0,cI 0,cI 0,cI 0,cI 0])]⟩) (fun v => Zy n (fun v => qX n mo15 x0 x1 v.1 v.2.1 v.2.2.1 v.2.2.2.1 v.2.2.2.2.1 v.2.2.2.2.2.1 v.2.2.2.2.2.2.1 v.2.2.2.2.2.2.2.1 v.2.2.2.2.2.2.2.2.1 v.2.2.2.2.2.2.2.2.2) r17 y1 y10 y2 y3 y4 y5 y6 y7 y8 y9 v.1 v.2.1 v.2.2.1 v.2.2.2.1 v.2.2.2.2.1 v.2.2.2.2.2.1 v.2.2.2.2.2.2 = some o15) ?_ ?_
    ·refine Tr.at ?_
     refine lA 2 ?_
     refine sL 2130303721457 3408 ⟨68,0,[sB 40 r17.2,sB 39 r17.2,sB 12 r17.2,sA 11 11 5 0,sB 38 r17.2,(31,.tup [(true,[.dead,.dead,.dead,.dead,.dead]),(false,[.dead])]),sV 37 (Vec.row r17.1),sI 35 v16.Co,sA 34 10 8 1,sV 33 ((Pt.row v16).drop 3),sA 32 10 8 3,sB 30 (!v16.Has),sB 29 (!v16.Has),sB 28 v16.Has,sA 27 10 8 2,sB 26 false,sB 25 false,sB 24 v16.Up,sA 23 10 8 0,sI 9 y1,sA 10 10 8 0,sV 22 (Pt.row v16),(21,.fad ((Pt.row v16))),sI 20 y1,sB 19 (decide (y1 < (x1.length : Int))),sI 18 y1,sI 17 (x1.length : Int),sC 16 (cF 8 x1 Pt.row),sA 8 8 5 0,sI 7 y2,sA 6 6 5 0,sI 5 0,sA 4 4 5 0,sI 0 x0],[(11,(Vec.row r17.1)),(10,(Pt.row v16)),(8,[cI y3,cI y4,cI y5,cI y6,cI y7]),(6,[cI y8,cI y9,cI y10,cI x0,cI 0]),(4,[cI 0,cI 0,cI 0,cI 0,cI 0])]⟩ ?_
     cases h5 : r17.2
     ·have H := zF h5 H
      refine uA 14 0x7fffefffff1ff1 3408 ?_
      refine sB' 0x7fffefffff1ff1 3408 ⟨68,0,[sB 54 false,(53,.tup []),(52,.tup []),(51,.tup []),(50,.tup []),(49,.tup []),(48,.tup []),(47,.tup []),sB 46 false,sB 45 false,(44,.tup []),(43,.tup []),(42,.tup []),(41,.tup []),sB 40 false,sB 39 false,sB 12 false,sA 11 11 5 0,sB 38 false,(31,.tup [(true,[.dead,.dead,.dead,.dead,.dead]),(false,[.dead])]),sV 37 (Vec.row r17.1),sI 35 v16.Co,sA 34 10 8 1,sV 33 ((Pt.row v16).drop 3),sA 32 10 8 3,sB 30 (!v16.Has),sB 29 (!v16.Has),sB 28 v16.Has,sA 27 10 8 2,sB 26 false,sB 25 false,sB 24 v16.Up,sA 23 10 8 0,sI 9 y1,sA 10 10 8 0,sV 22 (Pt.row v16),(21,.fad ((Pt.row v16))),sI 20 y1,sB 19 (decide (y1 < (x1.length : Int))),sI 18 y1,sI 17 (x1.length : Int),sC 16 (cF 8 x1 Pt.row),sA 8 8 5 0,sI 7 y2,sA 6 6 5 0,sI 5 0,sA 4 4 5 0,sI 0 x0],[(11,(Vec.row r17.1)),(10,(Pt.row v16)),(8,[cI y3,cI y4,cI y5,cI y6,cI y7]),(6,[cI y8,cI y9,cI y10,cI x0,cI 0]),(4,[cI 0,cI 0,cI 0,cI 0,cI 0])]⟩ ?_
      rw [h1]
      rw [h3]
      exact jA (false,false,false,false,false,false,false) H [54,46,45,40,39,12,11,38,31,37,35,34,33,32,30,29,28,27,26,25,24,23,9,10,22,21,20,19,18,17,16,8,7,6,5,4,0] [11,10,8,6,4]
     have H := zG h5 H
     refine lA 6 ?_
     refine sL 0x7fefffff1ff1 3408 ⟨68,0,[sB 46 (decide (r17.1.Root < x0)),sB 45 (decide (r17.1.Root < x0)),sB 44 (decide (r17.1.Root < x0)),sI 43 x0,sI 42 r17.1.Root,sA 41 11 5 0,sB 40 true,sB 39 true,sB 12 true,sA 11 11 5 0,sB 38 true,(31,.tup [(true,[.dead,.dead,.dead,.dead,.dead]),(false,[.dead])]),sV 37 (Vec.row r17.1),sI 35 v16.Co,sA 34 10 8 1,sV 33 ((Pt.row v16).drop 3),sA 32 10 8 3,sB 30 (!v16.Has),sB 29 (!v16.Has),sB 28 v16.Has,sA 27 10 8 2,sB 26 false,sB 25 false,sB 24 v16.Up,sA 23 10 8 0,sI 9 y1,sA 10 10 8 0,sV 22 (Pt.row v16),(21,.fad ((Pt.row v16))),sI 20 y1,sB 19 (decide (y1 < (x1.length : Int))),sI 18 y1,sI 17 (x1.length : Int),sC 16 (cF 8 x1 Pt.row),sA 8 8 5 0,sI 7 y2,sA 6 6 5 0,sI 5 0,sA 4 4 5 0,sI 0 x0],[(11,(Vec.row r17.1)),(10,(Pt.row v16)),(8,[cI y3,cI y4,cI y5,cI y6,cI y7]),(6,[cI y8,cI y9,cI y10,cI x0,cI 0]),(4,[cI 0,cI 0,cI 0,cI 0,cI 0])]⟩ ?_
     cases h6 : (decide (r17.1.Root < x0))
     ·have H := zF h6 H
      refine uA 8 0x7fffefffff1ff1 3408 ?_
      refine sB' 0x7fffefffff1ff1 3408 ⟨68,0,[sB 54 false,(53,.tup []),(52,.tup []),(51,.tup []),(50,.tup []),(49,.tup []),(48,.tup []),(47,.tup []),sB 46 false,sB 45 false,sB 44 false,sI 43 x0,sI 42 r17.1.Root,sA 41 11 5 0,sB 40 true,sB 39 true,sB 12 true,sA 11 11 5 0,sB 38 true,(31,.tup [(true,[.dead,.dead,.dead,.dead,.dead]),(false,[.dead])]),sV 37 (Vec.row r17.1),sI 35 v16.Co,sA 34 10 8 1,sV 33 ((Pt.row v16).drop 3),sA 32 10 8 3,sB 30 (!v16.Has),sB 29 (!v16.Has),sB 28 v16.Has,sA 27 10 8 2,sB 26 false,sB 25 false,sB 24 v16.Up,sA 23 10 8 0,sI 9 y1,sA 10 10 8 0,sV 22 (Pt.row v16),(21,.fad ((Pt.row v16))),sI 20 y1,sB 19 (decide (y1 < (x1.length : Int))),sI 18 y1,sI 17 (x1.length : Int),sC 16 (cF 8 x1 Pt.row),sA 8 8 5 0,sI 7 y2,sA 6 6 5 0,sI 5 0,sA 4 4 5 0,sI 0 x0],[(11,(Vec.row r17.1)),(10,(Pt.row v16)),(8,[cI y3,cI y4,cI y5,cI y6,cI y7]),(6,[cI y8,cI y9,cI y10,cI x0,cI 0]),(4,[cI 0,cI 0,cI 0,cI 0,cI 0])]⟩ ?_
      rw [h1]
      rw [h3]
      exact jA (false,false,false,true,true,true,true) H [54,46,45,40,39,12,11,38,31,37,35,34,33,32,30,29,28,27,26,25,24,23,9,10,22,21,20,19,18,17,16,8,7,6,5,4,0] [11,10,8,6,4]
     have H := zG h6 H
     refine lA 3 ?_
     refine sL 0x3ffefffff1ff1 3408 ⟨68,0,[sB 49 (decide (y2 < 0)),sB 48 (decide (y2 < 0)),sI 47 y2,sB 46 true,sB 45 true,sB 44 true,sI 43 x0,sI 42 r17.1.Root,sA 41 11 5 0,sB 40 true,sB 39 true,sB 12 true,sA 11 11 5 0,sB 38 true,(31,.tup [(true,[.dead,.dead,.dead,.dead,.dead]),(false,[.dead])]),sV 37 (Vec.row r17.1),sI 35 v16.Co,sA 34 10 8 1,sV 33 ((Pt.row v16).drop 3),sA 32 10 8 3,sB 30 (!v16.Has),sB 29 (!v16.Has),sB 28 v16.Has,sA 27 10 8 2,sB 26 false,sB 25 false,sB 24 v16.Up,sA 23 10 8 0,sI 9 y1,sA 10 10 8 0,sV 22 (Pt.row v16),(21,.fad ((Pt.row v16))),sI 20 y1,sB 19 (decide (y1 < (x1.length : Int))),sI 18 y1,sI 17 (x1.length : Int),sC 16 (cF 8 x1 Pt.row),sA 8 8 5 0,sI 7 y2,sA 6 6 5 0,sI 5 0,sA 4 4 5 0,sI 0 x0],[(11,(Vec.row r17.1)),(10,(Pt.row v16)),(8,[cI y3,cI y4,cI y5,cI y6,cI y7]),(6,[cI y8,cI y9,cI y10,cI x0,cI 0]),(4,[cI 0,cI 0,cI 0,cI 0,cI 0])]⟩ ?_
     cases h7 : (decide (y2 < 0))
     ·have H := zF h7 H
      refine lA 2 ?_
      obtain ⟨r25,er25,H⟩ := bs H
      refine vA [.rd,.rd] (zEt n r17.1 (⟨y3,y4,y5,y6,y7⟩ : Vec) r25 er25) ?_
      refine uA 2 0x7fffefffff1ff1 3408 ?_
      refine sB' 0x7fffefffff1ff1 3408 ⟨68,0,[sB 54 r25,sB 53 r25,sB 52 r25,sV 51 [cI y3,cI y4,cI y5,cI y6,cI y7],sV 50 (Vec.row r17.1),sB 49 false,sB 48 false,sI 47 y2,sB 46 true,sB 45 true,sB 44 true,sI 43 x0,sI 42 r17.1.Root,sA 41 11 5 0,sB 40 true,sB 39 true,sB 12 true,sA 11 11 5 0,sB 38 true,(31,.tup [(true,[.dead,.dead,.dead,.dead,.dead]),(false,[.dead])]),sV 37 (Vec.row r17.1),sI 35 v16.Co,sA 34 10 8 1,sV 33 ((Pt.row v16).drop 3),sA 32 10 8 3,sB 30 (!v16.Has),sB 29 (!v16.Has),sB 28 v16.Has,sA 27 10 8 2,sB 26 false,sB 25 false,sB 24 v16.Up,sA 23 10 8 0,sI 9 y1,sA 10 10 8 0,sV 22 (Pt.row v16),(21,.fad ((Pt.row v16))),sI 20 y1,sB 19 (decide (y1 < (x1.length : Int))),sI 18 y1,sI 17 (x1.length : Int),sC 16 (cF 8 x1 Pt.row),sA 8 8 5 0,sI 7 y2,sA 6 6 5 0,sI 5 0,sA 4 4 5 0,sI 0 x0],[(11,(Vec.row r17.1)),(10,(Pt.row v16)),(8,[cI y3,cI y4,cI y5,cI y6,cI y7]),(6,[cI y8,cI y9,cI y10,cI x0,cI 0]),(4,[cI 0,cI 0,cI 0,cI 0,cI 0])]⟩ ?_
      rw [h1]
      rw [h3]
      exact jA (r25,true,true,true,true,true,true) H [54,46,45,40,39,12,11,38,31,37,35,34,33,32,30,29,28,27,26,25,24,23,9,10,22,21,20,19,18,17,16,8,7,6,5,4,0] [11,10,8,6,4]
     have H := zG h7 H
     refine uA 5 0x7fffefffff1ff1 3408 ?_
     refine sB' 0x7fffefffff1ff1 3408 ⟨68,0,[sB 54 true,sB 53 true,(52,.tup []),(51,.tup []),(50,.tup []),sB 49 true,sB 48 true,sI 47 y2,sB 46 true,sB 45 true,sB 44 true,sI 43 x0,sI 42 r17.1.Root,sA 41 11 5 0,sB 40 true,sB 39 true,sB 12 true,sA 11 11 5 0,sB 38 true,(31,.tup [(true,[.dead,.dead,.dead,.dead,.dead]),(false,[.dead])]),sV 37 (Vec.row r17.1),sI 35 v16.Co,sA 34 10 8 1,sV 33 ((Pt.row v16).drop 3),sA 32 10 8 3,sB 30 (!v16.Has),sB 29 (!v16.Has),sB 28 v16.Has,sA 27 10 8 2,sB 26 false,sB 25 false,sB 24 v16.Up,sA 23 10 8 0,sI 9 y1,sA 10 10 8 0,sV 22 (Pt.row v16),(21,.fad ((Pt.row v16))),sI 20 y1,sB 19 (decide (y1 < (x1.length : Int))),sI 18 y1,sI 17 (x1.length : Int),sC 16 (cF 8 x1 Pt.row),sA 8 8 5 0,sI 7 y2,sA 6 6 5 0,sI 5 0,sA 4 4 5 0,sI 0 x0],[(11,(Vec.row r17.1)),(10,(Pt.row v16)),(8,[cI y3,cI y4,cI y5,cI y6,cI y7]),(6,[cI y8,cI y9,cI y10,cI x0,cI 0]),(4,[cI 0,cI 0,cI 0,cI 0,cI 0])]⟩ ?_
     rw [h1]
     rw [h3]
     exact jA (true,true,true,true,true,true,true) H [54,46,45,40,39,12,11,38,31,37,35,34,33,32,30,29,28,27,26,25,24,23,9,10,22,21,20,19,18,17,16,8,7,6,5,4,0] [11,10,8,6,4]
    rintro ⟨y18,y19,y20,y21,y22,y23,y24⟩ H
    have H : (Zy n (fun v => qX n mo15 x0 x1 v.1 v.2.1 v.2.2.1 v.2.2.2.1 v.2.2.2.2.1 v.2.2.2.2.2.1 v.2.2.2.2.2.2.1 v.2.2.2.2.2.2.2.1 v.2.2.2.2.2.2.2.2.1 v.2.2.2.2.2.2.2.2.2) r17 y1 y10 y2 y3 y4 y5 y6 y7 y8 y9 y18 y19 y20 y21 y22 y23 y24) = some o15 := H
    unfold Zy at H
    cases h4 : y18
    ·have H := zF h4 H
     refine nB_ ?_
     refine tK ?_
     refine eA 2 0x2004061efffff1ff1 3408 ?_
     exact jB mo15 ((IntKind.wrap .i64 (y1 + 1)),y2,y3,y4,y5,y6,y7,y8,y9,y10) H [18,17,16,8,7,6,5,4,0] [8,6,4]
    have H := zG h4 H
    refine tB_ ?_
    refine gA 4 0x1c061efffff1ff1 3408 ?_
    refine eA 9 0x1ffc061efffff1ff1 3408 ?_
    refine eA 2 0x3ffc061efffff1ff1 3408 ?_
    exact jB mo15 ((IntKind.wrap .i64 (y1 + 1)),y1,r17.1.Root,r17.1.Co,r17.1.Hops,r17.1.Bridge,r17.1.Port,r17.1.Root,r17.1.Co,r17.1.Hops) H [18,17,16,8,7,6,5,4,0] [8,6,4]
   refine tA h3 ?_
   refine Tr.exit ?_
   refine aJ ?_
   refine eA 2 0x2000000007fff07f1 1360 ?_
   exact jB mo15 ((IntKind.wrap .i64 (y1 + 1)),y2,y3,y4,y5,y6,y7,y8,y9,y10) H [18,17,16,8,7,6,5,4,0] [8,6,4]
  have H := zG h2 H
  refine uA 4 2147420145 1360 ?_
  refine tB_ ?_
  refine Tr.exit ?_
  refine aJ ?_
  refine eA 2 0x2000000007fff07f1 1360 ?_
  exact jB mo15 ((IntKind.wrap .i64 (y1 + 1)),y2,y3,y4,y5,y6,y7,y8,y9,y10) H [18,17,16,8,7,6,5,4,0] [8,6,4]
 rintro ⟨y11,y12,y13,y14⟩ H
 have H : (Ji n x0 y11 y12 y13 y14) = some r := H
 unfold Ji at H
 refine gA 4 48 16 ?_
 exact te (fJ [(true,[cI y12,cI y13,cI y14,cI x0,cI 0]),(false,[cI y11])] H)
def Yz (n : Nat) (x0 : Int) (x1 : (List Pt)) (x2 : Int) : Option (Vec) :=
  ((YZ n x0 x1).bind fun r1 => (some (⟨r1.1.Root,r1.1.Co,r1.1.Hops,r1.1.Bridge,x2⟩ : Vec)))
theorem zFk (n : Nat) (x0 : Int) (x1 : (List Pt)) (x2 : Int) (r : Vec) (H : Yz n x0 x1 x2 = some r) : zH Try.prog 132 [.val false [.lit (.int .i64 x0)],.val false [.sl false 8 (CV.frzEs (x1.map Pt.row))],.val false [.lit (.int .i64 x2)]] [.val true (Vec.row r)] [] := by
 refine cW Try.func132 (fun g d => sl [g 0,g 1,g 2,g 3] .ret) [.cell 6 35] fun cx => ?_
 unfold Yz at H
 refine gA 1 71 64 ?_
 refine rA 2 ?_
 obtain ⟨r1,er1,H⟩ := bs H
 refine vA [.rd,.rd] (zEr n x0 x1 r1 er1) ?_
 refine LAt.movT tOk (ty := 156) (t := 12) (d := 9) (g := none) [(true,(Vec.row r1.1)),(false,[cI r1.2])] _ kr (.inl rfl) kr kr kr kr rfl ?_
 refine uA 5 196 192 ?_
 refine gA 3 192 192 ?_
 refine gA 2 64 64 ?_
 exact te (fJ [(true,[cI r1.1.Root,cI r1.1.Co,cI r1.1.Hops,cI r1.1.Bridge,cI x2])] H)
def zAN (n : Nat) (x0 : Net) (x1 : Int) (x2 : Int) : Option (Vec) :=
  ((idx x0.Bs x1).bind fun v1 => ((idx x0.Bs x1).bind fun v2 => ((Yz n v1.Id v2.Ps x2).bind fun r3 => (some r3))))
def zLz : Tab := ⟨15,[0,1,0,6,8,16,0,64,0,384,512,1024,0,6176,16383],[0,1,0,6,8,16,0,64,0,384,512,1024,0,6176,8192],[0,1,0,7,15,31,0,64,0,448,960,1984,0,8191,16383]⟩
theorem zB4 : zY (rg Try.f114 1) zLz = true := kr
theorem zHt (n : Nat) (x0 : Net) (x1 : Int) (x2 : Int) (r : Vec) (H : zAN n x0 x1 x2 = some r) : zH Try.prog 114 [.val true (CV.frzRow (Net.row x0)),.val false [.lit (.int .i64 x1)],.val false [.lit (.int .i64 x2)]] [.val true (Vec.row r)] [] := by
 refine cW Try.func114 (fun g d => sl [g 0,d 1] .ret) [.cell 6 35] fun cx => ?_
 unfold zAN at H
 refine gA 2 78 72 ?_
 obtain ⟨v1,ev1,H⟩ := bs H
 obtain ⟨v2,ev2,H⟩ := bs H
 obtain ⟨r3,er3,H⟩ := bs H
 refine Tr.draws mixed 15 kr ⟨21,0,[sA 6 6 5 0],[(6,(Vec.row r3))]⟩ (fun cx => ?_) ?_
 ·refine mA zB4 [(0,[]),(1,[13,14]),(2,[])] 12 [⟨[13,14],42,7,8⟩] fun cx => ?_
  refine iN zB4 3 zA.row ev1 fun cx => ?_
  refine mA zB4 [(4,[]),(5,[]),(6,[]),(7,[13,14]),(8,[])] 6 [⟨[13,14],42,13,14⟩,⟨[13,14],42,7,8⟩] fun cx => ?_
  refine iN zB4 9 zA.row ev2 fun cx => ?_
  refine mA zB4 [(10,[]),(11,[]),(12,[])] 2 [⟨[13,14],42,13,14⟩,⟨[13,14],42,7,8⟩] fun cx => ?_
  refine mC zB4 13 ?_
  refine vA [.rd,.rd,.rd] (zFk n v1.Id v2.Ps x2 r3 er3) ?_
  refine fA ?_
  refine mC zB4 14 ?_
  refine lA 1 ?_
  refine fA ?_
  exact mE zB4 [6] [6]
 exact te (fJ [(true,(Vec.row r3))] H)
def Yr (n : Nat) (x0 : Net) (y3 : (List Say)) : Option (Net) :=
  (some (⟨x0.Bs,x0.Ls,y3⟩ : Net))
def qY (n : Nat) : Nat → Net → Int → Int → (List Say) → Option (((List Say)) ⊕ (Net))
  | 0,_,_,_,_ => none
  | mo4 + 1,x0,x1,y1,y2 => (bif (decide (y1 < (x0.Ls.length : Int))) then ((idx x0.Ls y1).bind fun v5 => ((qd n (⟨x0.Bs,x0.Ls,y2⟩ : Net) y1).bind fun r6 => (bif (!r6) then (qY n mo4 x0 x1 (IntKind.wrap .i64 (y1 + 1)) y2) else (bif (decide ((y2.length : Int) ≥ 40)) then (qY n mo4 x0 x1 (IntKind.wrap .i64 (y1 + 1)) y2) else (bif (v5.A == x1) then ((zAN n (⟨x0.Bs,x0.Ls,y2⟩ : Net) x1 v5.P).bind fun r9 => (bif (decide (y2.length + [(⟨y1,false,r9⟩ : Say)].length ≤ 268435456)) then (qY n mo4 x0 x1 (IntKind.wrap .i64 (y1 + 1)) (y2 ++ [(⟨y1,false,r9⟩ : Say)])) else none)) else (bif (v5.B == x1) then ((zAN n (⟨x0.Bs,x0.Ls,y2⟩ : Net) x1 v5.Q).bind fun r7 => (bif (decide (y2.length + [(⟨y1,true,r7⟩ : Say)].length ≤ 268435456)) then (qY n mo4 x0 x1 (IntKind.wrap .i64 (y1 + 1)) (y2 ++ [(⟨y1,true,r7⟩ : Say)])) else none)) else (qY n mo4 x0 x1 (IntKind.wrap .i64 (y1 + 1)) y2))))))) else (some (Sum.inl y2)))
def Yg (n : Nat) (x0 : Net) (x1 : Int) : Option (Net) :=
  ((qY n n x0 x1 0 x0.Said).bind fun o => match o with | .inl y3 => (Yr n x0 y3) | .inr r => some r)
def zMk : Tab := ⟨19,[0,0,2,4,8,0,0,64,128,0,0,1024,2816,4128,8192,20496,65535,131071,196607],[0,0,2,4,8,0,0,64,128,0,0,1024,2816,4128,8192,16400,1,65536,163840],[0,0,2,6,14,0,0,64,192,0,0,1024,4032,8160,16352,32766,65535,131071,262143]⟩
noncomputable abbrev G96 (k : Nat) := Rg Try.f96 k
noncomputable abbrev D96 (k : Nat) := Rd Try.f96 k
theorem zDE : zY (rg Try.f96 7) zMk = true := kr
def zMj : Tab := ⟨19,[0,0,2,4,8,0,0,64,128,0,0,1024,2816,4128,8192,20496,65535,131071,196607],[0,0,2,4,8,0,0,64,128,0,0,1024,2816,4128,8192,16400,1,65536,163840],[0,0,2,6,14,0,0,64,192,0,0,1024,4032,8160,16352,32766,65535,131071,262143]⟩
theorem zDD : zY (rg Try.f96 5) zMj = true := kr
theorem zHC (n : Nat) (x0 : Net) (x1 : Int) (r : Net) (H : Yg n x0 x1 = some r) : zH Try.prog 96 [.ptr (Net.row x0),.val false [.lit (.int .i64 x1)]] [] [(0,(Net.row r))] := by
 refine zH.of_body tOk Try.func96 rfl (c := (.seq (G96 0) (.block 0 (.loop (.seq (G96 1) (.seq (.cond (.tmp 12) .skip (.exit 0)) (.seq (.block 1 (.seq (G96 2) (.seq (.seq (G96 3) (.cond (.tmp 29) (.exit 1) .skip)) (.seq (G96 4) (.cond (.tmp 33) (D96 5) (.seq (G96 6) (.cond (.tmp 55) (D96 7) .skip))))))) (G96 8)))))))) kr (Nat.le_of_ble_eq_true kr) 1 (rs := []) rfl [] .nil [] [] [(0,(Net.row r))] fun cx => ?_
 show Tr _ _ _ ⟨75,1,[sA 0 0 3 0,sI 1 x1],[(0,(Net.row x0))]⟩ _
 unfold Yg at H
 refine rA 4 ?_
 refine kO x0.Ls Link.row ?_
 refine uA 1 3587 1 ?_
 obtain ⟨o4,eo4,Ho4⟩ := bs H
 clear H
 refine Tr.mid (ι := (List Say)) (fun v => ⟨75,1,[sA 0 0 3 0],[(0,[cL 11 x0.Bs zA.row,cL 4 x0.Ls Link.row,cL 7 v Say.row])]⟩) (fun v => Yr n x0 v = some r) ?_ ?_
 ·refine tB ?_
  refine Tr.loop (ι := Nat × (Int × (List Say))) (fun v => ⟨75,1,[sI 11 v.2.1,sI 10 (x0.Ls.length : Int),sR 9 0 3 1 1 false,sA 0 0 3 0,sI 1 x1],[(0,[cL 11 x0.Bs zA.row,cL 4 x0.Ls Link.row,cL 7 v.2.2 Say.row])]⟩) (fun v => qY n v.1 x0 x1 v.2.1 v.2.2 = some o4) (fun v => v.1) (n,(0,x0.Said)) eo4 (St.sub_of [11,10,9,0,1] [0] kr) ?_
  rintro ⟨mo4,y1,y2⟩ H
  have H : qY n mo4 x0 x1 y1 y2 = some o4 := H
  obtain _ | mo4 := mo4
  ·exact nN H
  rw [qY] at H
  refine gA 1 7683 1 ?_
  refine tS ?_
  obtain ⟨h1,H⟩ | ⟨h1,H⟩ := bC H
  ·refine nA h1 ?_
   refine Tr.exit ?_
   refine aJ ?_
   obtain rfl := si H
   have H := Ho4
   dsimp only at H
   exact jA y2 H [0] [0]
  refine tA h1 ?_
  refine tK ?_
  refine tS ?_
  refine tB ?_
  refine rA 1 ?_
  obtain ⟨v5,ev5,H⟩ := bs H
  refine oA Link.row ev5 ?_
  refine dE (tI 78) (.box 0) [(0,0),(1,(y1.toNat))] 4 0 [.sl true 3 [[cL 11 x0.Bs zA.row,cL 4 x0.Ls Link.row,cL 7 y2 Say.row]]] (Link.row v5) (zO rfl (zK ev5).2) ?_
  refine uA 3 3635 33 ?_
  refine tS ?_
  refine rA 4 ?_
  obtain ⟨r6,er6,H⟩ := bs H
  refine vB [.rd,.rd] [.box 0] (zAg n (⟨x0.Bs,x0.Ls,y2⟩ : Net) y1 r6 er6) (.inr (zZ (zI zM zx) z6)) ?_
  refine lA 2 ?_
  refine sL 4197939 33 ⟨75,1,[sB 22 (!r6),sI 4 y1,sA 5 5 4 0,sI 11 y1,sI 10 (x0.Ls.length : Int),sR 9 0 3 1 1 false,sA 0 0 3 0,sI 1 x1],[(5,(Link.row v5)),(0,[cL 11 x0.Bs zA.row,cL 4 x0.Ls Link.row,cL 7 y2 Say.row])]⟩ ?_
  cases h2 : (!r6)
  ·have H := zF h2 H
   refine lA 4 ?_
   refine kO y2 Say.row ?_
   refine uA 2 536874547 33 ?_
   obtain ⟨h3,H⟩ | ⟨h3,H⟩ := bC H
   ·refine nA h3 ?_
    refine tK ?_
    refine gA 4 8589938227 33 ?_
    obtain ⟨h4,H⟩ | ⟨h4,H⟩ := bC H
    ·refine nA h4 ?_
     refine gA 4 0x80000000000e33 33 ?_
     obtain ⟨h5,H⟩ | ⟨h5,H⟩ := bC H
     ·refine nA h5 ?_
      refine tK ?_
      refine eA 2 3587 1 ?_
      exact jB mo4 ((IntKind.wrap .i64 (y1 + 1)),y2) H [11,10,9,0,1] [0]
     refine tA h5 ?_
     obtain ⟨r7,er7,H⟩ := bs H
     obtain ⟨hg8,H⟩ := gs H
     refine Tr.draw mixed 19 kr ⟨75,1,[sI 11 y1,sI 10 (x0.Ls.length : Int),sA 0 0 3 0,sI 1 x1,sR 9 0 3 1 1 false],[(0,[cL 11 x0.Bs zA.row,cL 4 x0.Ls Link.row,cL 7 (y2 ++ [(⟨y1,true,r7⟩ : Say)]) Say.row])]⟩ (fun cx => ?_) ?_
     ·refine mA zDE [(0,[]),(1,[]),(2,[]),(3,[]),(4,[15,18]),(5,[]),(6,[]),(7,[]),(8,[12,13,14,15,18]),(9,[]),(10,[]),(11,[12,13,14,15,18])] 7 [⟨[12,13,14,15,18],3,66,67⟩,⟨[12,13,14,15,18],68,63,64⟩,⟨[15,18],66,59,60⟩] fun cx => ?_
      refine mC zDE 12 ?_
      refine vB [.rd,.rd,.rd] [.box 0] (zHt n (⟨x0.Bs,x0.Ls,y2⟩ : Net) x1 v5.Q r7 er7) (.inr (zZ (Vec.row_mine _) z6)) ?_
      refine fA ?_
      refine mC zDE 13 ?_
      refine lA 1 ?_
      refine fA ?_
      refine mC zDE 14 ?_
      refine lA 1 ?_
      refine fA ?_
      refine mC zDE 15 ?_
      refine LAt.grab 60 kr ?_
      refine LAt.appMU tOk (t := 66) (ty := 66) (e := 80) (x := (.tmp 60)) (y := (.tmp 70)) (d := 71) (g := none) (tI 80) Say.row y2 [(⟨y1,true,r7⟩ : Say)] kr kr kr kr kr kr kr kr kr kr hg8 ?_
      refine fA ?_
      refine mA zDE [(16,[]),(17,[])] 1 [⟨[12,13,14,15,18],3,66,67⟩,⟨[12,13,14,15,18],68,63,64⟩,⟨[15,18],66,59,60⟩] fun cx => ?_
      refine mC zDE 18 ?_
      refine LAt.storeO tOk (t := 66) (ty := 0) (ad := (.tmp 73)) (x := (.tmp 71)) (g := none) (tI 66) false [cL 7 (y2 ++ [(⟨y1,true,r7⟩ : Say)]) Say.row] 0 2 [cL 11 x0.Bs zA.row,cL 4 x0.Ls Link.row,.dead] kr kr kr kr kr kr kr kr ?_
      refine fA ?_
      exact mE zDE [11,10,0,1,9] [0]
     refine eA 2 3587 1 ?_
     exact jB mo4 ((IntKind.wrap .i64 (y1 + 1)),(y2 ++ [(⟨y1,true,r7⟩ : Say)])) H [11,10,9,0,1] [0]
    refine tA h4 ?_
    obtain ⟨r9,er9,H⟩ := bs H
    obtain ⟨hg10,H⟩ := gs H
    refine Tr.draw mixed 19 kr ⟨75,1,[sI 11 y1,sI 10 (x0.Ls.length : Int),sA 0 0 3 0,sI 1 x1,sR 9 0 3 1 1 false],[(0,[cL 11 x0.Bs zA.row,cL 4 x0.Ls Link.row,cL 7 (y2 ++ [(⟨y1,false,r9⟩ : Say)]) Say.row])]⟩ (fun cx => ?_) ?_
    ·refine mA zDD [(0,[]),(1,[]),(2,[]),(3,[]),(4,[15,18]),(5,[]),(6,[]),(7,[]),(8,[12,13,14,15,18]),(9,[]),(10,[]),(11,[12,13,14,15,18])] 7 [⟨[12,13,14,15,18],3,44,45⟩,⟨[12,13,14,15,18],68,41,42⟩,⟨[15,18],66,37,38⟩] fun cx => ?_
     refine mC zDD 12 ?_
     refine vB [.rd,.rd,.rd] [.box 0] (zHt n (⟨x0.Bs,x0.Ls,y2⟩ : Net) x1 v5.P r9 er9) (.inr (zZ (Vec.row_mine _) z6)) ?_
     refine fA ?_
     refine mC zDD 13 ?_
     refine lA 1 ?_
     refine fA ?_
     refine mC zDD 14 ?_
     refine lA 1 ?_
     refine fA ?_
     refine mC zDD 15 ?_
     refine LAt.grab 38 kr ?_
     refine LAt.appMU tOk (t := 66) (ty := 66) (e := 80) (x := (.tmp 38)) (y := (.tmp 48)) (d := 49) (g := none) (tI 80) Say.row y2 [(⟨y1,false,r9⟩ : Say)] kr kr kr kr kr kr kr kr kr kr hg10 ?_
     refine fA ?_
     refine mA zDD [(16,[]),(17,[])] 1 [⟨[12,13,14,15,18],3,44,45⟩,⟨[12,13,14,15,18],68,41,42⟩,⟨[15,18],66,37,38⟩] fun cx => ?_
     refine mC zDD 18 ?_
     refine LAt.storeO tOk (t := 66) (ty := 0) (ad := (.tmp 51)) (x := (.tmp 49)) (g := none) (tI 66) false [cL 7 (y2 ++ [(⟨y1,false,r9⟩ : Say)]) Say.row] 0 2 [cL 11 x0.Bs zA.row,cL 4 x0.Ls Link.row,.dead] kr kr kr kr kr kr kr kr ?_
     refine fA ?_
     exact mE zDD [11,10,0,1,9] [0]
    refine eA 2 3587 1 ?_
    exact jB mo4 ((IntKind.wrap .i64 (y1 + 1)),(y2 ++ [(⟨y1,false,r9⟩ : Say)])) H [11,10,9,0,1] [0]
   refine tA h3 ?_
   refine Tr.exit ?_
   refine aJ ?_
   refine eA 2 3587 1 ?_
   exact jB mo4 ((IntKind.wrap .i64 (y1 + 1)),y2) H [11,10,9,0,1] [0]
  have H := zG h2 H
  refine uA 7 536874547 33 ?_
  refine tB_ ?_
  refine Tr.exit ?_
  refine aJ ?_
  refine eA 2 3587 1 ?_
  exact jB mo4 ((IntKind.wrap .i64 (y1 + 1)),y2) H [11,10,9,0,1] [0]
 rintro y3 H
 have H : (Yr n x0 y3) = some r := H
 unfold Yr at H
 obtain rfl := si H
 exact Fin.ofY _ [] [] _ [] _ [(0,[cL 11 x0.Bs zA.row,cL 4 x0.Ls Link.row,cL 7 y3 Say.row])] kr rfl rfl rfl kr kr kr kr rfl rfl rfl
def zAM (n : Nat) (x0 : Int) : Option (Int) :=
  (some (if 1000000 < (IntKind.wrap .i64 (x0 + 1)) then 1000000 else (IntKind.wrap .i64 (x0 + 1))))
theorem zHs (n : Nat) (x0 : Int) (r : Int) (H : zAM n x0 = some r) : zH Try.prog 61 [.val false [.lit (.int .i64 x0)]] [.val false [.lit (.int .i64 r)]] [] := by
 refine cW Try.func61 (fun g d => sl [g 0,g 1] .ret) [.tmp 2] fun cx => ?_
 unfold zAM at H
 refine gA 1 1 0 ?_
 refine gA 4 4 0 ?_
 exact te (fJ [(false,[cI (if 1000000 < (IntKind.wrap .i64 (x0 + 1)) then 1000000 else (IntKind.wrap .i64 (x0 + 1)))])] H)
def zAH (n : Nat) (y3 : (List zB)) : Option ((List zB)) :=
  (some y3)
def ZK (n : Nat) : Nat → (List zB) → Int → (List zB) → Option (((List zB)) ⊕ ((List zB)))
  | 0,_,_,_ => none
  | mo4 + 1,x0,y1,y2 => (bif (decide (y1 < (x0.length : Int))) then ((idx x0 y1).bind fun v5 => (bif (!v5.Sc) then (bif (decide (v5.Age ≥ 4)) then (ZK n mo4 x0 (IntKind.wrap .i64 (y1 + 1)) y2) else (bif (decide (y2.length + [(⟨v5.Tag,v5.Mac,v5.Port,(IntKind.wrap .i64 (v5.Age + 1)),v5.Sc⟩ : zB)].length ≤ 268435456)) then (ZK n mo4 x0 (IntKind.wrap .i64 (y1 + 1)) (y2 ++ [(⟨v5.Tag,v5.Mac,v5.Port,(IntKind.wrap .i64 (v5.Age + 1)),v5.Sc⟩ : zB)])) else none)) else (bif (decide (y2.length + [v5].length ≤ 268435456)) then (ZK n mo4 x0 (IntKind.wrap .i64 (y1 + 1)) (y2 ++ [v5])) else none))) else (some (Sum.inl y2)))
def Jx (n : Nat) (x0 : (List zB)) : Option ((List zB)) :=
  ((ZK n n x0 0 ([] : List zB)).bind fun o => match o with | .inl y3 => (zAH n y3) | .inr r => some r)
theorem zI8 (n : Nat) (x0 : (List zB)) (r : (List zB)) (H : Jx n x0 = some r) : zH Try.prog 62 [.val false [.sl false 5 (CV.frzEs (x0.map zB.row))]] [.val false [.sl true 5 (r.map zB.row)]] [] := by
 refine cW Try.func62 (fun g d => sl [g 0,g 1,sl [g 2] (.block 0 (.loop (sl [g 3,cn 9 .skip (.exit 0),.block 1 (sl [g 4,sl [g 5] (cn 14 (sl [sl [g 6] (cn 17 (.exit 1) .skip)] (g 7)) .skip)] (g 8))] (g 9)))),g 10] .ret) [.tmp 2] fun cx => ?_
 unfold Jx at H
 refine gA 1 1 0 ?_
 refine gA 1 9 0 ?_
 refine tS ?_
 refine rA 1 ?_
 refine kF x0 zB.row ?_
 refine uA 1 456 0 ?_
 obtain ⟨o4,eo4,Ho4⟩ := bs H
 clear H
 refine Tr.mid (ι := (List zB)) (fun v => ⟨28,0,[sC 3 (cL 5 v zB.row)],[]⟩) (fun v => zAH n v = some r) ?_ ?_
 ·refine tB ?_
  refine Tr.loop (ι := Nat × (Int × (List zB))) (fun v => ⟨28,0,[sI 8 v.2.1,sI 7 (x0.length : Int),sC 6 (cF 5 x0 zB.row),sC 3 (cL 5 v.2.2 zB.row)],[]⟩) (fun v => ZK n v.1 x0 v.2.1 v.2.2 = some o4) (fun v => v.1) (n,(0,([] : List zB))) eo4 (St.sub_of [8,7,6,3] [] kr) ?_
  rintro ⟨mo4,y1,y2⟩ H
  have H : ZK n mo4 x0 y1 y2 = some o4 := H
  obtain _ | mo4 := mo4
  ·exact nN H
  rw [ZK] at H
  refine gA 1 968 0 ?_
  refine tS ?_
  obtain ⟨h1,H⟩ | ⟨h1,H⟩ := bC H
  ·refine nA h1 ?_
   refine Tr.exit ?_
   refine aJ ?_
   obtain rfl := si H
   have H := Ho4
   dsimp only at H
   exact jA y2 H [3] []
  refine tA h1 ?_
  refine tK ?_
  refine tS ?_
  refine tB ?_
  refine tR ?_
  obtain ⟨v5,ev5,H⟩ := bs H
  refine iA zB.row ev5 ?_
  refine uA 3 488 32 ?_
  refine tS ?_
  refine gA 3 16872 32 ?_
  obtain ⟨h2,H⟩ | ⟨h2,H⟩ := bC H
  ·refine nA h2 ?_
   refine tK ?_
   refine Tr.at ?_
   refine lA 3 ?_
   obtain ⟨hg6,H⟩ := gs H
   refine LAt.appMU tOk (t := 25) (ty := 25) (e := 49) (x := (.tmp 22)) (y := (.tmp 24)) (d := 25) (g := none) (tI 49) zB.row y2 [v5] kr kr kr kr kr kr kr kr kr kr hg6 ?_
   refine LAt.moveU (T := lk tab) (ty := 25) (x := (.tmp 25)) (d := 3) (g := none) false [cL 5 (y2 ++ [v5]) zB.row] kr kr kr kr kr ?_
   refine dA 456 0 ?_
   refine eA 2 456 0 ?_
   exact jB mo4 ((IntKind.wrap .i64 (y1 + 1)),(y2 ++ [v5])) H [8,7,6,3] []
  refine tA h2 ?_
  refine tS ?_
  refine gA 3 131560 32 ?_
  obtain ⟨h3,H⟩ | ⟨h3,H⟩ := bC H
  ·refine nA h3 ?_
   refine tK ?_
   refine eA 5 488 32 ?_
   refine Tr.at ?_
   refine lA 3 ?_
   obtain ⟨hg7,H⟩ := gs H
   refine LAt.appMU tOk (t := 25) (ty := 25) (e := 49) (x := (.tmp 22)) (y := (.tmp 24)) (d := 25) (g := none) (tI 49) zB.row y2 [(⟨v5.Tag,v5.Mac,v5.Port,(IntKind.wrap .i64 (v5.Age + 1)),v5.Sc⟩ : zB)] kr kr kr kr kr kr kr kr kr kr hg7 ?_
   refine LAt.moveU (T := lk tab) (ty := 25) (x := (.tmp 25)) (d := 3) (g := none) false [cL 5 (y2 ++ [(⟨v5.Tag,v5.Mac,v5.Port,(IntKind.wrap .i64 (v5.Age + 1)),v5.Sc⟩ : zB)]) zB.row] kr kr kr kr kr ?_
   refine dA 456 0 ?_
   refine eA 2 456 0 ?_
   exact jB mo4 ((IntKind.wrap .i64 (y1 + 1)),(y2 ++ [(⟨v5.Tag,v5.Mac,v5.Port,(IntKind.wrap .i64 (v5.Age + 1)),v5.Sc⟩ : zB)])) H [8,7,6,3] []
  refine tA h3 ?_
  refine Tr.exit ?_
  refine aJ ?_
  refine eA 2 456 0 ?_
  exact jB mo4 ((IntKind.wrap .i64 (y1 + 1)),y2) H [8,7,6,3] []
 rintro y3 H
 have H : (zAH n y3) = some r := H
 unfold zAH at H
 refine gA 2 12 0 ?_
 exact te (fJ [(false,[cL 5 y3 zB.row])] H)
def Jy (n : Nat) (x0 : Int) (x1 : (List Pt)) (x2 : Int) : Option (Int) :=
  ((qI n x2 0 (IntKind.wrap .i64 ((x1.length : Int) - 1))).bind fun r1 => (bif (!r1) then (some 4) else ((idx x1 x2).bind fun v2 => (bif (!v2.Up) then (some 4) else ((YZ n x0 x1).bind fun r3 => (bif (r3.2 == x2) then (some 1) else ((idx x1 x2).bind fun v4 => (bif (!v4.Has) then (some 2) else ((Yz n x0 x1 x2).bind fun r5 => ((idx x1 x2).bind fun v6 => ((JS n r5 v6.Hd).bind fun r7 => (bif r7 then (some 2) else (some 3)))))))))))))
def zMh : Tab := ⟨19,[0,0,3,4,8,16,32,64,64,64,960,64,64,6208,8256,16448,33856,65600,196608],[0,0,3,4,8,16,32,64,64,64,960,64,64,6208,8256,16448,33856,65600,131072],[0,0,3,7,15,31,63,127,127,127,1023,127,127,6271,14463,30847,65535,131071,262143]⟩
theorem JH : zY (rg Try.f66 6) zMh = true := kr
theorem zI9 (n : Nat) (x0 : Int) (x1 : (List Pt)) (x2 : Int) (r : Int) (H : Jy n x0 x1 x2 = some r) : zH Try.prog 66 [.val false [.lit (.int .i64 x0)],.val false [.sl false 8 (CV.frzEs (x1.map Pt.row))],.val false [.lit (.int .i64 x2)]] [.val false [.lit (.int .i64 r)]] [] := by
 refine cW Try.func66 (fun g d => sl [g 0,sl [g 1] (cn 22 (sl [g 2] .ret) .skip),g 3,.block 0 (sl [g 4] (cn 29 (sl [g 5] .ret) (sl [d 6] (cn 33 (sl [g 7] .ret) .skip)))),g 8] .ret) [.tmp 6] fun cx => ?_
 unfold Jy at H
 refine gA 1 7 0 ?_
 refine tS ?_
 refine rA 2 ?_
 refine kF x1 Pt.row ?_
 refine lA 1 ?_
 obtain ⟨r1,er1,H⟩ := bs H
 refine vA [.rd,.rd,.rd] (qN n x2 0 (IntKind.wrap .i64 ((x1.length : Int) - 1)) r1 er1) ?_
 refine lA 2 ?_
 refine sL 32775 0 ⟨52,0,[sB 15 (!r1),sI 0 x0,sC 1 (cF 8 x1 Pt.row),sI 2 x2],[]⟩ ?_
 cases h1 : (!r1)
 ·have H := zF h1 H
  refine lA 2 ?_
  obtain ⟨v2,ev2,H⟩ := bs H
  refine iA Pt.row ev2 ?_
  refine uA 4 4194311 0 ?_
  obtain ⟨h2,H⟩ | ⟨h2,H⟩ := bC H
  ·refine nA h2 ?_
   refine tK ?_
   refine rA 2 ?_
   obtain ⟨r3,er3,H⟩ := bs H
   refine vA [.rd,.rd] (zEr n x0 x1 r3 er3) ?_
   refine LAt.movT tOk (ty := 156) (t := 26) (d := 23) (g := none) [(true,(Vec.row r3.1)),(false,[cI r3.2])] _ kr (.inl rfl) kr kr kr kr rfl ?_
   refine uA 5 263 0 ?_
   refine tS ?_
   refine tB ?_
   refine gA 4 536870919 0 ?_
   obtain ⟨h3,H⟩ | ⟨h3,H⟩ := bC H
   ·refine nA h3 ?_
    obtain ⟨v4,ev4,H⟩ := bs H
    refine sT ⟨52,0,[sB 29 (r3.2 == x2),sI 0 x0,sC 1 (cF 8 x1 Pt.row),sI 2 x2],[]⟩ ?_
    cases h4 : (!v4.Has)
    ·have H := zF h4 H
     obtain ⟨r5,er5,H⟩ := bs H
     obtain ⟨v6,ev6,H⟩ := bs H
     obtain ⟨r7,er7,H⟩ := bs H
     refine Tr.draws mixed 19 kr ⟨52,0,[sB 33 r7],[]⟩ (fun cx => ?_) ?_
     ·refine mA JH [(0,[]),(1,[])] 17 [] fun cx => ?_
      refine iN JH 2 Pt.row ev4 fun cx => ?_
      refine mA JH [(3,[]),(4,[]),(5,[]),(6,[])] 12 [] fun cx => ?_
      refine sA_ 1099511627783 0 ⟨52,0,[sB 40 (!v4.Has),sI 0 x0,sC 1 (cF 8 x1 Pt.row),sI 2 x2],[]⟩ ?_
      rw [h4]
      refine mA JH [(7,[]),(8,[]),(9,[]),(11,[]),(12,[])] 7 [] fun cx => ?_
      refine iN JH 13 Pt.row ev6 fun cx => ?_
      refine mA JH [(14,[]),(15,[])] 4 [] fun cx => ?_
      refine mC JH 10 ?_
      refine vA [.rd,.rd,.rd] (zFk n x0 x1 x2 r5 er5) ?_
      refine fA ?_
      refine mC JH 16 ?_
      refine vA [.rd,.rd] (zEt n r5 v6.Hd r7 er7) ?_
      refine fA ?_
      refine mA JH [(17,[]),(18,[])] 0 [] fun cx => ?_
      exact mE JH [33] []
     cases h5 : r7
     ·have H := zF h5 H
      refine nB_ ?_
      refine tK ?_
      refine gA 1 64 0 ?_
      exact te (fJ [(false,[cI 3])] H)
     have H := zG h5 H
     refine tB_ ?_
     refine gA 1 64 0 ?_
     exact te (fJ [(false,[cI 2])] H)
    have H := zG h4 H
    refine Tr.draws mixed 19 kr ⟨52,0,[sB 33 true],[]⟩ (fun cx => ?_) ?_
    ·refine mA JH [(0,[]),(1,[])] 17 [] fun cx => ?_
     refine iN JH 2 Pt.row ev4 fun cx => ?_
     refine mA JH [(3,[]),(4,[]),(5,[]),(6,[])] 12 [] fun cx => ?_
     refine sA_ 1099511627783 0 ⟨52,0,[sB 40 (!v4.Has),sI 0 x0,sC 1 (cF 8 x1 Pt.row),sI 2 x2],[]⟩ ?_
     rw [h4]
     refine mA JH [(7,[]),(8,[]),(9,[]),(10,[]),(11,[]),(12,[]),(13,[]),(14,[]),(15,[]),(16,[]),(17,[]),(18,[])] 0 [] fun cx => ?_
     exact mE JH [33] []
    refine tB_ ?_
    refine gA 1 64 0 ?_
    exact te (fJ [(false,[cI 2])] H)
   refine tA h3 ?_
   refine gA 1 64 0 ?_
   exact te (fJ [(false,[cI 1])] H)
  refine tA h2 ?_
  refine gA 1 64 0 ?_
  exact te (fJ [(false,[cI 4])] H)
 have H := zG h1 H
 refine uA 7 4194311 0 ?_
 refine tB_ ?_
 refine gA 1 64 0 ?_
 exact te (fJ [(false,[cI 4])] H)
def zAu (n : Nat) (y3 : Int) : Option (Int) :=
  (some y3)
def Ze (n : Nat) : Nat → Int → (List Pt) → Int → Int → Option ((Int) ⊕ (Int))
  | 0,_,_,_,_ => none
  | mo4 + 1,x0,x1,y1,y2 => (bif (decide (y1 < (x1.length : Int))) then (bif (decide (y1 < 6)) then ((Jy n x0 x1 y1).bind fun r5 => (bif (r5 == 1) then (bif (decide ((0 : Int) ≤ y1)) then (Ze n mo4 x0 x1 (IntKind.wrap .i64 (y1 + 1)) (IntKind.wrap .i64 (BitVec.ofInt (IntKind.bits .i64) y2 ||| BitVec.ofInt (IntKind.bits .i64) (IntKind.wrap .i64 (1 * 2 ^ min ((y1 : Int)).toNat (IntKind.bits .i64)))).toNat)) else none) else (bif (r5 == 2) then (bif (decide ((0 : Int) ≤ y1)) then (Ze n mo4 x0 x1 (IntKind.wrap .i64 (y1 + 1)) (IntKind.wrap .i64 (BitVec.ofInt (IntKind.bits .i64) y2 ||| BitVec.ofInt (IntKind.bits .i64) (IntKind.wrap .i64 (1 * 2 ^ min ((y1 : Int)).toNat (IntKind.bits .i64)))).toNat)) else none) else (Ze n mo4 x0 x1 (IntKind.wrap .i64 (y1 + 1)) y2)))) else (some (Sum.inl y2))) else (some (Sum.inl y2)))
def zAi (n : Nat) (x0 : Int) (x1 : (List Pt)) : Option (Int) :=
  ((Ze n n x0 x1 0 0).bind fun o => match o with | .inl y3 => (zAu n y3) | .inr r => some r)
theorem zJz (n : Nat) (x0 : Int) (x1 : (List Pt)) (r : Int) (H : zAi n x0 x1 = some r) : zH Try.prog 18 [.val false [.lit (.int .i64 x0)],.val false [.sl false 8 (CV.frzEs (x1.map Pt.row))]] [.val false [.lit (.int .i64 r)]] [] := by
 refine cW Try.func18 (fun g d => sl [g 0,g 1,sl [g 2] (.block 0 (.loop (sl [sl [g 3] (cn 15 .skip (.exit 0)),.block 1 (sl [g 5,g 6] (cn 27 (g 7) .skip))] (g 4)))),g 8] .ret) [.tmp 4] fun cx => ?_
 unfold zAi at H
 refine gA 1 3 0 ?_
 refine gA 1 35 0 ?_
 refine tS ?_
 refine gA 1 99 0 ?_
 obtain ⟨o4,eo4,Ho4⟩ := bs H
 clear H
 refine Tr.mid (ι := Int) (fun v => ⟨33,0,[sI 5 v],[]⟩) (fun v => zAu n v = some r) ?_ ?_
 ·refine tB ?_
  refine Tr.loop (ι := Nat × (Int × Int)) (fun v => ⟨33,0,[sI 6 v.2.1,sI 5 v.2.2,sI 0 x0,sC 1 (cF 8 x1 Pt.row)],[]⟩) (fun v => Ze n v.1 x0 x1 v.2.1 v.2.2 = some o4) (fun v => v.1) (n,(0,0)) eo4 (St.sub_of [6,5,0,1] [] kr) ?_
  rintro ⟨mo4,y1,y2⟩ H
  have H : Ze n mo4 x0 x1 y1 y2 = some o4 := H
  obtain _ | mo4 := mo4
  ·exact nN H
  rw [Ze] at H
  refine tS ?_
  refine rA 2 ?_
  refine kF x1 Pt.row ?_
  refine lA 2 ?_
  refine sL 4195 0 ⟨33,0,[sB 12 (decide (y1 < (x1.length : Int))),sI 6 y1,sI 5 y2,sI 0 x0,sC 1 (cF 8 x1 Pt.row)],[]⟩ ?_
  cases h1 : (decide (y1 < (x1.length : Int)))
  ·have H := zF h1 H
   refine uA 3 32867 0 ?_
   refine nB_ ?_
   refine Tr.exit ?_
   refine aJ ?_
   obtain rfl := si H
   have H := Ho4
   dsimp only at H
   exact jA y2 H [5] []
  have H := zG h1 H
  refine uA 3 32867 0 ?_
  obtain ⟨h2,H⟩ | ⟨h2,H⟩ := bC H
  ·refine nA h2 ?_
   refine Tr.exit ?_
   refine aJ ?_
   obtain rfl := si H
   have H := Ho4
   dsimp only at H
   exact jA y2 H [5] []
  refine tA h2 ?_
  refine tK ?_
  refine tS ?_
  refine tB ?_
  refine rA 3 ?_
  obtain ⟨r5,er5,H⟩ := bs H
  refine vA [.rd,.rd,.rd] (zI9 n x0 x1 y1 r5 er5) ?_
  refine uA 1 227 0 ?_
  refine rA 3 ?_
  refine sL 16777443 0 ⟨33,0,[sB 24 (r5 == 1),sI 7 r5,sI 6 y1,sI 5 y2,sI 0 x0,sC 1 (cF 8 x1 Pt.row)],[]⟩ ?_
  cases h3 : (r5 == 1)
  ·have H := zF h3 H
   refine uA 3 134217827 0 ?_
   obtain ⟨h4,H⟩ | ⟨h4,H⟩ := bC H
   ·refine nA h4 ?_
    refine tK ?_
    refine eA 3 99 0 ?_
    exact jB mo4 ((IntKind.wrap .i64 (y1 + 1)),y2) H [6,5,0,1] []
   refine tA h4 ?_
   refine Tr.at ?_
   refine lA 2 ?_
   obtain ⟨hg6,H⟩ := gs H
   refine LAt.binC tOk (op := .shl) (t := 3) (ty := 3) (ty' := 3) (x := (.const (.int .i64 1))) (y := (.tmp 29)) (d := 30) (g := none) (.int .i64 1) (.int .i64 y1) (.int .i64 (IntKind.wrap .i64 (1 * 2 ^ min ((y1 : Int)).toNat (IntKind.bits .i64)))) _ kr kr kr kr kr (φ := (0 : Int) ≤ y1) kr (of_decide_eq_true hg6) rfl ?_
   refine uA 2 99 0 ?_
   refine eA 3 99 0 ?_
   exact jB mo4 ((IntKind.wrap .i64 (y1 + 1)),(IntKind.wrap .i64 (BitVec.ofInt (IntKind.bits .i64) y2 ||| BitVec.ofInt (IntKind.bits .i64) (IntKind.wrap .i64 (1 * 2 ^ min ((y1 : Int)).toNat (IntKind.bits .i64)))).toNat)) H [6,5,0,1] []
  have H := zG h3 H
  refine uA 3 134217827 0 ?_
  refine tB_ ?_
  refine Tr.at ?_
  refine lA 2 ?_
  obtain ⟨hg7,H⟩ := gs H
  refine LAt.binC tOk (op := .shl) (t := 3) (ty := 3) (ty' := 3) (x := (.const (.int .i64 1))) (y := (.tmp 29)) (d := 30) (g := none) (.int .i64 1) (.int .i64 y1) (.int .i64 (IntKind.wrap .i64 (1 * 2 ^ min ((y1 : Int)).toNat (IntKind.bits .i64)))) _ kr kr kr kr kr (φ := (0 : Int) ≤ y1) kr (of_decide_eq_true hg7) rfl ?_
  refine uA 2 99 0 ?_
  refine eA 3 99 0 ?_
  exact jB mo4 ((IntKind.wrap .i64 (y1 + 1)),(IntKind.wrap .i64 (BitVec.ofInt (IntKind.bits .i64) y2 ||| BitVec.ofInt (IntKind.bits .i64) (IntKind.wrap .i64 (1 * 2 ^ min ((y1 : Int)).toNat (IntKind.bits .i64)))).toNat)) H [6,5,0,1] []
 rintro y3 H
 have H : (zAu n y3) = some r := H
 unfold zAu at H
 refine gA 2 16 0 ?_
 exact te (fJ [(false,[cI y3])] H)
def JW (n : Nat) (x0 : Int) (x1 : Int) : Option (Bool) :=
  ((qI n x1 0 62).bind fun r1 => (bif r1 then (bif (decide ((0 : Int) ≤ x1)) then (some ((IntKind.wrap .i64 (BitVec.ofInt (IntKind.bits .i64) (Int.fdiv x0 (2 ^ min ((x1 : Int)).toNat (IntKind.bits .i64))) &&& BitVec.ofInt (IntKind.bits .i64) 1).toNat) == 1)) else none) else (some false)))
theorem zIc (n : Nat) (x0 : Int) (x1 : Int) (r : Bool) (H : JW n x0 x1 = some r) : zH Try.prog 72 [.val false [.lit (.int .i64 x0)],.val false [.lit (.int .i64 x1)]] [.val false [.lit (.bool r)]] [] := by
 refine cW Try.func72 (fun g d => sl [g 0,g 1] .ret) [.tmp 4] fun cx => ?_
 unfold JW at H
 refine gA 1 3 0 ?_
 refine rA 1 ?_
 obtain ⟨r1,er1,H⟩ := bs H
 refine vA [.rd,.rd,.rd] (qN n x1 0 62 r1 er1) ?_
 refine lA 1 ?_
 refine sL 131 0 ⟨14,0,[sB 7 r1,sI 0 x0,sI 1 x1],[]⟩ ?_
 cases h1 : r1
 ·have H := zF h1 H
  refine uA 7 16 0 ?_
  exact te (fF H)
 have H := zG h1 H
 refine lA 2 ?_
 obtain ⟨hg2,H⟩ := gs H
 refine LAt.binC tOk (op := .shr) (t := 3) (ty := 3) (ty' := 3) (x := (.tmp 8)) (y := (.tmp 9)) (d := 10) (g := (some (2,true))) (.int .i64 x0) (.int .i64 x1) (.int .i64 (Int.fdiv x0 (2 ^ min ((x1 : Int)).toNat (IntKind.bits .i64)))) _ kr kr kr kr kr (φ := (0 : Int) ≤ x1) kr (of_decide_eq_true hg2) rfl ?_
 refine uA 4 16 0 ?_
 exact te (fJ [(false,[cB ((IntKind.wrap .i64 (BitVec.ofInt (IntKind.bits .i64) (Int.fdiv x0 (2 ^ min ((x1 : Int)).toNat (IntKind.bits .i64))) &&& BitVec.ofInt (IntKind.bits .i64) 1).toNat) == 1)])] H)
def YA (n : Nat) (y3 : (List zB)) : Option ((List zB)) :=
  (some y3)
def ql (n : Nat) : Nat → (List zB) → Int → Int → (List zB) → Option (((List zB)) ⊕ ((List zB)))
  | 0,_,_,_,_ => none
  | mo4 + 1,x0,x1,y1,y2 => (bif (decide (y1 < (x0.length : Int))) then ((idx x0 y1).bind fun v5 => (bif v5.Sc then (bif (decide (y2.length + [v5].length ≤ 268435456)) then (ql n mo4 x0 x1 (IntKind.wrap .i64 (y1 + 1)) (y2 ++ [v5])) else none) else (bif (v5.Port != x1) then (bif (decide (y2.length + [v5].length ≤ 268435456)) then (ql n mo4 x0 x1 (IntKind.wrap .i64 (y1 + 1)) (y2 ++ [v5])) else none) else (ql n mo4 x0 x1 (IntKind.wrap .i64 (y1 + 1)) y2)))) else (some (Sum.inl y2)))
def Yf (n : Nat) (x0 : (List zB)) (x1 : Int) : Option ((List zB)) :=
  ((ql n n x0 x1 0 ([] : List zB)).bind fun o => match o with | .inl y3 => (YA n y3) | .inr r => some r)
theorem zHB (n : Nat) (x0 : (List zB)) (x1 : Int) (r : (List zB)) (H : Yf n x0 x1 = some r) : zH Try.prog 129 [.val false [.sl false 5 (CV.frzEs (x0.map zB.row))],.val false [.lit (.int .i64 x1)]] [.val false [.sl true 5 (r.map zB.row)]] [] := by
 refine cW Try.func129 (fun g d => sl [g 0,g 1,sl [g 2] (.block 0 (.loop (sl [g 3,cn 11 .skip (.exit 0),.block 1 (sl [g 4,g 5] (cn 21 (g 6) .skip))] (g 7)))),g 8] .ret) [.tmp 4] fun cx => ?_
 unfold Yf at H
 refine gA 1 3 0 ?_
 refine gA 1 35 0 ?_
 refine tS ?_
 refine rA 1 ?_
 refine kF x0 zB.row ?_
 refine uA 1 1826 0 ?_
 obtain ⟨o4,eo4,Ho4⟩ := bs H
 clear H
 refine Tr.mid (ι := (List zB)) (fun v => ⟨28,0,[sC 5 (cL 5 v zB.row)],[]⟩) (fun v => YA n v = some r) ?_ ?_
 ·refine tB ?_
  refine Tr.loop (ι := Nat × (Int × (List zB))) (fun v => ⟨28,0,[sI 10 v.2.1,sI 9 (x0.length : Int),sC 8 (cF 5 x0 zB.row),sC 5 (cL 5 v.2.2 zB.row),sI 1 x1],[]⟩) (fun v => ql n v.1 x0 x1 v.2.1 v.2.2 = some o4) (fun v => v.1) (n,(0,([] : List zB))) eo4 (St.sub_of [10,9,8,5,1] [] kr) ?_
  rintro ⟨mo4,y1,y2⟩ H
  have H : ql n mo4 x0 x1 y1 y2 = some o4 := H
  obtain _ | mo4 := mo4
  ·exact nN H
  rw [ql] at H
  refine gA 1 3874 0 ?_
  refine tS ?_
  obtain ⟨h1,H⟩ | ⟨h1,H⟩ := bC H
  ·refine nA h1 ?_
   refine Tr.exit ?_
   refine aJ ?_
   obtain rfl := si H
   have H := Ho4
   dsimp only at H
   exact jA y2 H [5] []
  refine tA h1 ?_
  refine tK ?_
  refine tS ?_
  refine tB ?_
  refine tR ?_
  obtain ⟨v5,ev5,H⟩ := bs H
  refine iA zB.row ev5 ?_
  refine uA 3 1954 128 ?_
  refine tS ?_
  refine Tr.at ?_
  refine lA 3 ?_
  refine sL 67490 128 ⟨28,0,[sB 16 v5.Sc,sA 7 7 5 0,sI 10 y1,sI 9 (x0.length : Int),sC 8 (cF 5 x0 zB.row),sC 5 (cL 5 y2 zB.row),sI 1 x1],[(7,(zB.row v5))]⟩ ?_
  cases h2 : v5.Sc
  ·have H := zF h2 H
   refine uA 5 2099106 128 ?_
   obtain ⟨h3,H⟩ | ⟨h3,H⟩ := bC H
   ·refine nA h3 ?_
    refine tK ?_
    refine eA 2 1826 0 ?_
    exact jB mo4 ((IntKind.wrap .i64 (y1 + 1)),y2) H [10,9,8,5,1] []
   refine tA h3 ?_
   refine Tr.at ?_
   refine lA 3 ?_
   obtain ⟨hg6,H⟩ := gs H
   refine LAt.appMU tOk (t := 25) (ty := 25) (e := 49) (x := (.tmp 22)) (y := (.tmp 24)) (d := 25) (g := none) (tI 49) zB.row y2 [v5] kr kr kr kr kr kr kr kr kr kr hg6 ?_
   refine LAt.moveU (T := lk tab) (ty := 25) (x := (.tmp 25)) (d := 5) (g := none) false [cL 5 (y2 ++ [v5]) zB.row] kr kr kr kr kr ?_
   refine dA 1826 0 ?_
   refine eA 2 1826 0 ?_
   exact jB mo4 ((IntKind.wrap .i64 (y1 + 1)),(y2 ++ [v5])) H [10,9,8,5,1] []
  have H := zG h2 H
  refine uA 5 2099106 128 ?_
  refine tB_ ?_
  refine Tr.at ?_
  refine lA 3 ?_
  obtain ⟨hg7,H⟩ := gs H
  refine LAt.appMU tOk (t := 25) (ty := 25) (e := 49) (x := (.tmp 22)) (y := (.tmp 24)) (d := 25) (g := none) (tI 49) zB.row y2 [v5] kr kr kr kr kr kr kr kr kr kr hg7 ?_
  refine LAt.moveU (T := lk tab) (ty := 25) (x := (.tmp 25)) (d := 5) (g := none) false [cL 5 (y2 ++ [v5]) zB.row] kr kr kr kr kr ?_
  refine dA 1826 0 ?_
  refine eA 2 1826 0 ?_
  exact jB mo4 ((IntKind.wrap .i64 (y1 + 1)),(y2 ++ [v5])) H [10,9,8,5,1] []
 rintro y3 H
 have H : (YA n y3) = some r := H
 unfold YA at H
 refine gA 2 48 0 ?_
 exact te (fJ [(false,[cL 5 y3 zB.row])] H)
def YU (n : Nat) (r1 : Int) (x0 : zA) (y5 : (List zB)) : Option (zA) :=
  (some (⟨x0.Id,x0.Name,x0.Ps,y5,x0.V,x0.Tk,x0.Pa,x0.Wo,x0.Dr,r1⟩ : zA))
def qx (n : Nat) : Nat → Int → zA → Int → (List zB) → Option (((List zB)) ⊕ (zA))
  | 0,_,_,_,_ => none
  | mo6 + 1,r2,x0,y3,y4 => (bif (decide (y3 < (x0.Ps.length : Int))) then ((JW n r2 y3).bind fun r7 => (bif (!r7) then ((Yf n y4 y3).bind fun r8 => (qx n mo6 r2 x0 (IntKind.wrap .i64 (y3 + 1)) r8)) else (qx n mo6 r2 x0 (IntKind.wrap .i64 (y3 + 1)) y4))) else (some (Sum.inl y4)))
def q4 (n : Nat) (x0 : zA) : Option (zA) :=
  ((zAM n x0.Ve).bind fun r1 => ((zAi n x0.Id x0.Ps).bind fun r2 => ((qx n n r2 x0 0 x0.F).bind fun o => match o with | .inl y5 => (YU n r1 x0 y5) | .inr r => some r)))
noncomputable abbrev G60 (k : Nat) := Rg Try.f60 k
noncomputable abbrev D60 (k : Nat) := Rd Try.f60 k
theorem zA5 (n : Nat) (x0 : zA) (r : zA) (H : q4 n x0 = some r) : zH Try.prog 60 [.ptr (zA.row x0)] [] [(0,(zA.row r))] := by
 refine zH.of_body tOk Try.func60 rfl (c := (.seq (G60 0) (.seq (D60 1) (.seq (G60 2) (.block 0 (.loop (.seq (G60 3) (.seq (.cond (.tmp 27) .skip (.exit 0)) (.seq (.block 1 (.seq (G60 4) (.seq (G60 5) (.cond (.tmp 32) (G60 6) .skip)))) (G60 7)))))))))) kr (Nat.le_of_ble_eq_true kr) 1 (rs := []) rfl [] .nil [] [] [(0,(zA.row r))] fun cx => ?_
 show Tr _ _ _ ⟨43,1,[sA 0 0 11 0],[(0,(zA.row x0))]⟩ _
 unfold q4 at H
 refine rA 5 ?_
 obtain ⟨r1,er1,H⟩ := bs H
 refine vA [.rd] (zHs n x0.Ve r1 er1) ?_
 refine uA 3 1 1 ?_
 obtain ⟨r2,er2,H⟩ := bs H
 refine Tr.draws mixed 10 kr ⟨43,1,[sI 2 r2,sA 0 0 11 0],[(0,[cI x0.Id,cS x0.Name,cL 8 x0.Ps Pt.row,cL 5 x0.F zB.row,cL 3 x0.V.Rows zD.row,cL 1 x0.V.Pv intRow,cI x0.Tk,cI x0.Pa,cI x0.Wo,cI x0.Dr,cI r1])]⟩ (fun cx => ?_) ?_
 ·refine aA [(0,[]),(1,[]),(2,[]),(3,[8]),(4,[]),(5,[]),(6,[]),(7,[8])] 2 [⟨[8],24,18,19⟩,⟨[8],3,14,15⟩] fun cx => ?_
  refine bA 8 ?_
  refine vB [.rd,.rd] [.box 0] (zJz n x0.Id x0.Ps r2 er2) (.inr (zZ (zI zM zx) z6)) ?_
  refine fA ?_
  refine aA [(9,[])] 0 [⟨[8],24,18,19⟩,⟨[8],3,14,15⟩] fun cx => ?_
  exact eE [2,0] [0]
 refine rA 4 ?_
 refine kO x0.Ps Pt.row ?_
 refine uA 1 100663301 1 ?_
 obtain ⟨o6,eo6,Ho6⟩ := bs H
 clear H
 refine Tr.mid (ι := (List zB)) (fun v => ⟨43,1,[sA 0 0 11 0],[(0,[cI x0.Id,cS x0.Name,cL 8 x0.Ps Pt.row,cL 5 v zB.row,cL 3 x0.V.Rows zD.row,cL 1 x0.V.Pv intRow,cI x0.Tk,cI x0.Pa,cI x0.Wo,cI x0.Dr,cI r1])]⟩) (fun v => YU n r1 x0 v = some r) ?_ ?_
 ·refine tB ?_
  refine Tr.loop (ι := Nat × (Int × (List zB))) (fun v => ⟨43,1,[sI 26 v.2.1,sI 25 (x0.Ps.length : Int),sI 2 r2,sA 0 0 11 0],[(0,[cI x0.Id,cS x0.Name,cL 8 x0.Ps Pt.row,cL 5 v.2.2 zB.row,cL 3 x0.V.Rows zD.row,cL 1 x0.V.Pv intRow,cI x0.Tk,cI x0.Pa,cI x0.Wo,cI x0.Dr,cI r1])]⟩) (fun v => qx n v.1 r2 x0 v.2.1 v.2.2 = some o6) (fun v => v.1) (n,(0,x0.F)) eo6 (St.sub_of [26,25,2,0] [0] kr) ?_
  rintro ⟨mo6,y3,y4⟩ H
  have H : qx n mo6 r2 x0 y3 y4 = some o6 := H
  obtain _ | mo6 := mo6
  ·exact nN H
  rw [qx] at H
  refine gA 1 234881029 1 ?_
  refine tS ?_
  obtain ⟨h1,H⟩ | ⟨h1,H⟩ := bC H
  ·refine nA h1 ?_
   refine Tr.exit ?_
   refine aJ ?_
   obtain rfl := si H
   have H := Ho6
   dsimp only at H
   exact jA y4 H [0] [0]
  refine tA h1 ?_
  refine tK ?_
  refine tS ?_
  refine tB ?_
  refine gA 2 100663309 1 ?_
  refine rA 2 ?_
  obtain ⟨r7,er7,H⟩ := bs H
  refine vA [.rd,.rd] (zIc n r2 y3 r7 er7) ?_
  refine uA 1 4395630605 1 ?_
  obtain ⟨h2,H⟩ | ⟨h2,H⟩ := bC H
  ·refine nA h2 ?_
   refine tK ?_
   refine eA 2 100663301 1 ?_
   exact jB mo6 ((IntKind.wrap .i64 (y3 + 1)),y4) H [26,25,2,0] [0]
  refine tA h2 ?_
  refine Tr.at ?_
  refine lA 6 ?_
  obtain ⟨r8,er8,H⟩ := bs H
  refine vB [.rd,.rd] [.box 0] (zHB n y4 y3 r8 er8) (.inr (zZ (zI (Yb (Qo zB.row_mine _)) zx) z6)) ?_
  refine uA 3 100663301 1 ?_
  refine eA 2 100663301 1 ?_
  exact jB mo6 ((IntKind.wrap .i64 (y3 + 1)),r8) H [26,25,2,0] [0]
 rintro y5 H
 have H : (YU n r1 x0 y5) = some r := H
 unfold YU at H
 obtain rfl := si H
 exact Fin.ofY _ [] [] _ [] _ [(0,[cI x0.Id,cS x0.Name,cL 8 x0.Ps Pt.row,cL 5 y5 zB.row,cL 3 x0.V.Rows zD.row,cL 1 x0.V.Pv intRow,cI x0.Tk,cI x0.Pa,cI x0.Wo,cI x0.Dr,cI r1])] kr rfl rfl rfl kr kr kr kr rfl rfl rfl
def zAI (n : Nat) (x0 : zA) : Option (zA) :=
  ((ZF n x0).bind fun r1 => ((QP n x0).bind fun r2 => (bif r2 then ((zAM n x0.Tk).bind fun r3 => ((Jx n x0.F).bind fun r4 => ((q4 n (⟨r1.Id,r1.Name,r1.Ps,r4,r1.V,r3,r1.Pa,r1.Wo,r1.Dr,r1.Ve⟩ : zA)).bind fun r5 => (some r5)))) else (some r1))))
theorem zKb (n : Nat) (x0 : zA) (r : zA) (H : zAI n x0 = some r) : zH Try.prog 15 [.val true (CV.frzRow (zA.row x0))] [.val true (zA.row r)] [] := by
 refine cW Try.func15 (fun g d => sl [g 0,g 1,sl [g 2] (cn 7 (sl [g 3,g 4] (g 5)) .skip),g 6] .ret) [.cell 2 31] fun cx => ?_
 unfold zAI at H
 refine gA 2 6 6 ?_
 refine rA 1 ?_
 obtain ⟨r1,er1,H⟩ := bs H
 refine vA [.rd] (Jj n x0 r1 er1) ?_
 refine uA 2 14 14 ?_
 refine tS ?_
 refine rA 1 ?_
 obtain ⟨r2,er2,H⟩ := bs H
 refine vA [.rd] (zCU n x0 r2 er2) ?_
 refine dA 142 14 ?_
 cases h1 : r2
 ·have H := zF h1 H
  refine nB_ ?_
  refine tK ?_
  refine gA 2 4 4 ?_
  exact te (fJ [(true,(zA.row r1))] H)
 have H := zG h1 H
 refine tB_ ?_
 refine rA 2 ?_
 obtain ⟨r3,er3,H⟩ := bs H
 refine vA [.rd] (zHs n x0.Tk r3 er3) ?_
 refine uA 2 14 14 ?_
 refine rA 2 ?_
 obtain ⟨r4,er4,H⟩ := bs H
 refine vA [.rd] (zI8 n x0.F r4 er4) ?_
 refine uA 2 12 12 ?_
 refine Tr.at ?_
 obtain ⟨r5,er5,H⟩ := bs H
 refine LAt.callL tOk [.lend] (f := 60) (av := #[.tmp 3]) (ats := #[31]) (d := (some 16)) (ty := 0) (g := none) kr kr kr [] (zA5 n (⟨r1.Id,r1.Name,r1.Ps,r4,r1.V,r3,r1.Pa,r1.Wo,r1.Dr,r1.Ve⟩ : zA) r5 er5) kr (.inl rfl) ?_
 refine dA 12 12 ?_
 refine gA 2 4 4 ?_
 exact te (fJ [(true,(zA.row r5))] H)
def Y2 (n : Nat) (x0 : zA) (x1 : Int) : Option (Bool) :=
  ((QP n x0).bind fun r1 => (bif r1 then ((qI n x1 0 (IntKind.wrap .i64 ((x0.Ps.length : Int) - 1))).bind fun r2 => (some r2)) else (some false)))
theorem zFl (n : Nat) (x0 : zA) (x1 : Int) (r : Bool) (H : Y2 n x0 x1 = some r) : zH Try.prog 59 [.val true (CV.frzRow (zA.row x0)),.val false [.lit (.int .i64 x1)]] [.val false [.lit (.bool r)]] [] := by
 refine cW Try.func59 (fun g d => sl [g 0,g 1] .ret) [.tmp 4] fun cx => ?_
 unfold Y2 at H
 refine gA 2 6 4 ?_
 refine rA 1 ?_
 obtain ⟨r1,er1,H⟩ := bs H
 refine vA [.rd] (zCU n x0 r1 er1) ?_
 refine lA 1 ?_
 refine sL 134 4 ⟨15,0,[sB 7 r1,sA 2 2 11 0,sI 1 x1],[(2,(CV.frzRow (zA.row x0)))]⟩ ?_
 cases h1 : r1
 ·have H := zF h1 H
  refine uA 8 16 0 ?_
  exact te (fF H)
 have H := zG h1 H
 refine lA 3 ?_
 refine kF x0.Ps Pt.row ?_
 refine lA 1 ?_
 obtain ⟨r2,er2,H⟩ := bs H
 refine vA [.rd,.rd,.rd] (qN n x1 0 (IntKind.wrap .i64 ((x0.Ps.length : Int) - 1)) r2 er2) ?_
 refine uA 2 16 0 ?_
 exact te (fJ [(false,[cB r2])] H)
def QX (n : Nat) (r1 : zA) (x1 : Int) (x2 : Vec) (y2 : Bool) : Option (zA) :=
  (bif y2 then ((idx r1.Ps x1).bind fun v3 => ((idx (r1.Ps.set (x1.toNat) (⟨v3.Up,v3.Co,true,v3.Hd⟩ : Pt)) x1).bind fun v4 => ((q4 n (⟨r1.Id,r1.Name,((r1.Ps.set (x1.toNat) (⟨v3.Up,v3.Co,true,v3.Hd⟩ : Pt)).set (x1.toNat) (⟨v4.Up,v4.Co,v4.Has,x2⟩ : Pt)),r1.F,r1.V,r1.Tk,r1.Pa,r1.Wo,r1.Dr,r1.Ve⟩ : zA)).bind fun r5 => (some r5)))) else (some r1))
def Qe (n : Nat) (x0 : zA) (x1 : Int) (x2 : Vec) : Option (zA) :=
  ((ZF n x0).bind fun r1 => ((Y2 n x0 x1).bind fun r6 => (bif r6 then ((idx x0.Ps x1).bind fun v7 => (bif v7.Up then ((YF n x2).bind fun r8 => (QX n r1 x1 x2 r8)) else (QX n r1 x1 x2 false))) else (QX n r1 x1 x2 false))))
def zMZ : Tab := ⟨13,[0,1,0,0,8,0,0,23,151,279,1023,2047,3071],[0,1,0,0,8,0,0,6,128,256,48,1024,2112],[0,1,0,0,8,0,0,31,159,415,1023,2047,4095]⟩
theorem zDC : zY (rg Try.f12 3) zMZ = true := kr
theorem zIY (n : Nat) (x0 : zA) (x1 : Int) (x2 : Vec) (r : zA) (H : Qe n x0 x1 x2 = some r) : zH Try.prog 12 [.val true (CV.frzRow (zA.row x0)),.val false [.lit (.int .i64 x1)],.val true (CV.frzRow (Vec.row x2))] [.val true (zA.row r)] [] := by
 refine cW Try.func12 (fun g d => sl [g 0,g 1,sl [g 2] (cn 24 (sl [d 3] (g 4)) .skip),g 5] .ret) [.cell 6 31] fun cx => ?_
 unfold Qe at H
 refine gA 3 106 104 ?_
 refine rA 1 ?_
 obtain ⟨r1,er1,H⟩ := bs H
 refine vA [.rd] (Jj n x0 r1 er1) ?_
 refine uA 2 234 232 ?_
 refine tS ?_
 refine tS ?_
 refine Tr.mid (ι := Bool) (fun v => ⟨38,0,[sB 24 v,sA 7 7 11 0,sA 6 6 11 0,sA 5 5 5 0,sI 1 x1],[(7,(zA.row r1)),(6,[cI 0,cS (⟨#[]⟩ : ByteArray),cL 8 ([] : List Pt) Pt.row,cL 5 ([] : List zB) zB.row,cL 3 ([] : List zD) zD.row,cL 1 ([] : List Int) intRow,cI 0,cI 0,cI 0,cI 0,cI 0]),(5,(Vec.row x2))]⟩) (fun v => QX n r1 x1 x2 v = some r) ?_ ?_
 ·refine Tr.at ?_
  refine lA 2 ?_
  obtain ⟨r6,er6,H⟩ := bs H
  refine vA [.rd,.rd] (zFl n x0 x1 r6 er6) ?_
  refine lA 1 ?_
  refine sL 8426 232 ⟨38,0,[sB 13 r6,sA 7 7 11 0,sA 6 6 11 0,sA 5 5 5 0,sA 3 3 11 0,sI 1 x1],[(7,(zA.row r1)),(6,[cI 0,cS (⟨#[]⟩ : ByteArray),cL 8 ([] : List Pt) Pt.row,cL 5 ([] : List zB) zB.row,cL 3 ([] : List zD) zD.row,cL 1 ([] : List Int) intRow,cI 0,cI 0,cI 0,cI 0,cI 0]),(5,(Vec.row x2)),(3,(CV.frzRow (zA.row x0)))]⟩ ?_
  cases h2 : r6
  ·have H := zF h2 H
   refine uA 11 16777442 224 ?_
   exact jA false H [24,7,6,5,1] [7,6,5]
  have H := zG h2 H
  refine lA 3 ?_
  obtain ⟨v7,ev7,H⟩ := bs H
  refine iA Pt.row ev7 ?_
  refine lA 4 ?_
  refine sL 2097378 224 ⟨38,0,[sB 21 v7.Up,sA 7 7 11 0,sA 6 6 11 0,sA 5 5 5 0,sI 1 x1],[(7,(zA.row r1)),(6,[cI 0,cS (⟨#[]⟩ : ByteArray),cL 8 ([] : List Pt) Pt.row,cL 5 ([] : List zB) zB.row,cL 3 ([] : List zD) zD.row,cL 1 ([] : List Int) intRow,cI 0,cI 0,cI 0,cI 0,cI 0]),(5,(Vec.row x2))]⟩ ?_
  cases h3 : v7.Up
  ·have H := zF h3 H
   refine uA 3 16777442 224 ?_
   exact jA false H [24,7,6,5,1] [7,6,5]
  have H := zG h3 H
  refine lA 1 ?_
  obtain ⟨r8,er8,H⟩ := bs H
  refine vA [.rd] (zBN n x2 r8 er8) ?_
  refine uA 1 16777442 224 ?_
  exact jA r8 H [24,7,6,5,1] [7,6,5]
 rintro y2 H
 have H : (QX n r1 x1 x2 y2) = some r := H
 unfold QX at H
 cases h1 : y2
 ·have H := zF h1 H
  refine nB_ ?_
  refine tK ?_
  refine gA 2 64 64 ?_
  exact te (fJ [(true,(zA.row r1))] H)
 have H := zG h1 H
 refine tB_ ?_
 obtain ⟨v3,ev3,H⟩ := bs H
 obtain ⟨v4,ev4,H⟩ := bs H
 refine Tr.draws mixed 13 kr ⟨38,0,[sA 7 7 11 0,sA 6 6 11 0],[(7,[cI r1.Id,cS r1.Name,cL 8 ((r1.Ps.set (x1.toNat) (⟨v3.Up,v3.Co,true,v3.Hd⟩ : Pt)).set (x1.toNat) (⟨v4.Up,v4.Co,v4.Has,x2⟩ : Pt)) Pt.row,cL 5 r1.F zB.row,cL 3 r1.V.Rows zD.row,cL 1 r1.V.Pv intRow,cI r1.Tk,cI r1.Pa,cI r1.Wo,cI r1.Dr,cI r1.Ve]),(6,[cI 0,cS (⟨#[]⟩ : ByteArray),cL 8 ([] : List Pt) Pt.row,cL 5 ([] : List zB) zB.row,cL 3 ([] : List zD) zD.row,cL 1 ([] : List Int) intRow,cI 0,cI 0,cI 0,cI 0,cI 0])]⟩ (fun cx => ?_) ?_
 ·refine mA zDC [(0,[]),(1,[9,12]),(2,[]),(3,[]),(4,[9,12]),(5,[]),(6,[12])] 6 [⟨[12],35,5,31⟩,⟨[9,12],24,28,29⟩,⟨[9,12],24,25,26⟩] fun cx => ?_
  refine oN zDC 7 Pt.row ev3 fun cx => ?_
  refine mA zDC [(8,[])] 4 [⟨[12],35,5,31⟩,⟨[9,12],24,28,29⟩,⟨[9,12],24,25,26⟩] fun cx => ?_
  refine mC zDC 9 ?_
  refine LAt.storeB tOk (t := 4) (ty := 0) (ad := (.tmp 33)) (x := (.const (.bool true))) (g := none) (tI 4) false [cB true] 7 2 (x1.toNat) 8 2 8 r1.Ps Pt.row v3 (⟨v3.Up,v3.Co,true,v3.Hd⟩ : Pt) kr kr kr kr kr kr kr kr (zK ev3).2 kr kr kr kr ?_
  refine fA ?_
  refine oN zDC 10 Pt.row ev4 fun cx => ?_
  refine mA zDC [(11,[])] 1 [⟨[12],35,5,31⟩,⟨[9,12],24,28,29⟩,⟨[9,12],24,25,26⟩] fun cx => ?_
  refine mC zDC 12 ?_
  refine LAt.storeB tOk (t := 35) (ty := 0) (ad := (.tmp 35)) (x := (.tmp 31)) (g := none) (tI 35) true (Vec.row x2) 7 2 (x1.toNat) 8 3 8 (r1.Ps.set (x1.toNat) (⟨v3.Up,v3.Co,true,v3.Hd⟩ : Pt)) Pt.row v4 (⟨v4.Up,v4.Co,v4.Has,x2⟩ : Pt) kr kr kr kr kr kr kr kr (zK ev4).2 kr kr kr kr ?_
  refine fA ?_
  exact mE zDC [7,6] [7,6]
 refine Tr.at ?_
 obtain ⟨r5,er5,H⟩ := bs H
 refine LAt.callL tOk [.lend] (f := 60) (av := #[.tmp 7]) (ats := #[31]) (d := (some 36)) (ty := 0) (g := none) kr kr kr [] (zA5 n (⟨r1.Id,r1.Name,((r1.Ps.set (x1.toNat) (⟨v3.Up,v3.Co,true,v3.Hd⟩ : Pt)).set (x1.toNat) (⟨v4.Up,v4.Co,v4.Has,x2⟩ : Pt)),r1.F,r1.V,r1.Tk,r1.Pa,r1.Wo,r1.Dr,r1.Ve⟩ : zA) r5 er5) kr (.inl rfl) ?_
 refine dA 192 192 ?_
 refine gA 2 64 64 ?_
 exact te (fJ [(true,(zA.row r5))] H)
def Zq (n : Nat) (x0 : Net) (x1 : Int) (x2 : Int) (x3 : Vec) : Option (Net) :=
  ((idx x0.Bs x1).bind fun v1 => ((Qe n v1 x2 x3).bind fun r2 => (some (⟨(x0.Bs.set (x1.toNat) r2),x0.Ls,x0.Said⟩ : Net))))
def zLy : Tab := ⟨17,[0,1,2,4,0,0,32,64,128,0,768,1024,0,0,14336,32767,65535],[0,1,2,4,0,0,32,64,128,0,768,1024,0,0,14336,24,49152],[0,1,3,7,0,0,32,96,224,0,992,2016,0,0,16352,32767,65535]⟩
noncomputable abbrev G113 (k : Nat) := Rg Try.f113 k
noncomputable abbrev D113 (k : Nat) := Rd Try.f113 k
theorem zB3 : zY (rg Try.f113 1) zLy = true := kr
theorem zET (n : Nat) (x0 : Net) (x1 : Int) (x2 : Int) (x3 : Vec) (r : Net) (H : Zq n x0 x1 x2 x3 = some r) : zH Try.prog 113 [.ptr (Net.row x0),.val false [.lit (.int .i64 x1)],.val false [.lit (.int .i64 x2)],.val true (CV.frzRow (Vec.row x3))] [] [(0,(Net.row r))] := by
 refine zH.of_body tOk Try.func113 rfl (c := (.seq (G113 0) (D113 1))) kr (Nat.le_of_ble_eq_true kr) 1 (rs := []) rfl [] .nil [] [] [(0,(Net.row r))] fun cx => ?_
 show Tr _ _ _ ⟨24,1,[sA 0 0 3 0,sI 1 x1,sI 2 x2,sV 3 (Vec.row x3)],[(0,(Net.row x0))]⟩ _
 unfold Zq at H
 refine gA 1 135 129 ?_
 obtain ⟨v1,ev1,H⟩ := bs H
 obtain ⟨r2,er2,H⟩ := bs H
 refine Tr.draw mixed 17 kr ⟨24,1,[sA 0 0 3 0],[(0,[cL 11 (x0.Bs.set (x1.toNat) r2) zA.row,cL 4 x0.Ls Link.row,cL 7 x0.Said Say.row])]⟩ (fun cx => ?_) ?_
 ·refine mA zB3 [(0,[]),(1,[]),(2,[]),(3,[16]),(4,[]),(5,[]),(6,[]),(7,[]),(8,[14,16]),(9,[])] 7 [⟨[14,16],42,15,16⟩,⟨[16],42,10,11⟩] fun cx => ?_
  refine oN zB3 10 zA.row ev1 fun cx => ?_
  refine mA zB3 [(12,[]),(13,[14,16])] 4 [⟨[14,16],35,7,21⟩,⟨[14,16],42,15,16⟩,⟨[16],42,10,11⟩] fun cx => ?_
  refine mC zB3 11 ?_
  refine dE (tI 31) (.box 0) [(0,0),(0,(x1.toNat))] 11 0 [.sl true 3 [(Net.row x0)]] (zA.row v1) (zO rfl (zK ev1).2) ?_
  refine fA ?_
  refine mC zB3 14 ?_
  refine LAt.callO tOk [.rd,.rd,.rd] (f := 12) (av := #[.tmp 19,.tmp 20,.tmp 21]) (ats := #[31,3,35]) (d := (some 22)) (ty := 31) (g := none) [(19,zA.row v1)] none kr kr kr [.box 0] (zIY n v1 x2 x3 r2 er2) (J6 (row := [.sl true 3 [(Net.row x0)]]) (q := [(0,0),(0,(x1.toNat))]) kr (zO rfl (zK ev1).2) zBE) kr zBD (.inr (And.intro (zZ (zA.row_mine _) z6) J7)) ?_
  refine fA ?_
  refine oN zB3 15 zA.row ev1 fun cx => ?_
  refine mC zB3 16 ?_
  refine LAt.storeB tOk (t := 31) (ty := 0) (ad := (.tmp 23)) (x := (.tmp 22)) (g := none) (tI 31) true (zA.row r2) 0 0 (x1.toNat) 11 0 11 x0.Bs zA.row v1 r2 kr kr kr kr kr kr kr kr (zK ev1).2 kr kr kr kr ?_
  refine fA ?_
  exact mE zB3 [0] [0]
 obtain rfl := si H
 exact Fin.ofY _ [] [] _ [] _ [(0,[cL 11 (x0.Bs.set (x1.toNat) r2) zA.row,cL 4 x0.Ls Link.row,cL 7 x0.Said Say.row])] kr rfl rfl rfl kr kr kr kr rfl rfl rfl
def ZY (n : Nat) (x0 : Net) (x1 : Int) (x2 : Bool) : Option (Net) :=
  ((idx x0.Said x1).bind fun v1 => (bif (decide ((0 : Int) ≤ 0) && (decide ((0 : Int) ≤ x1) && decide ((x1 : Int) ≤ (x0.Said.length : Int)))) then (bif (decide (([] : List Say).length + ((x0.Said.drop ((0 : Int)).toNat).take (((x1 : Int)).toNat - ((0 : Int)).toNat)).length ≤ 268435456)) then (bif (decide ((0 : Int) ≤ (IntKind.wrap .i64 (x1 + 1))) && (decide (((IntKind.wrap .i64 (x1 + 1)) : Int) ≤ (x0.Said.length : Int)) && decide (((x0.Said.length : Int) : Int) ≤ (x0.Said.length : Int)))) then (bif (decide ((([] : List Say) ++ ((x0.Said.drop ((0 : Int)).toNat).take (((x1 : Int)).toNat - ((0 : Int)).toNat))).length + ((x0.Said.drop (((IntKind.wrap .i64 (x1 + 1)) : Int)).toNat).take ((((x0.Said.length : Int) : Int)).toNat - (((IntKind.wrap .i64 (x1 + 1)) : Int)).toNat)).length ≤ 268435456)) then (bif (!x2) then (some (⟨x0.Bs,x0.Ls,((([] : List Say) ++ ((x0.Said.drop ((0 : Int)).toNat).take (((x1 : Int)).toNat - ((0 : Int)).toNat))) ++ ((x0.Said.drop (((IntKind.wrap .i64 (x1 + 1)) : Int)).toNat).take ((((x0.Said.length : Int) : Int)).toNat - (((IntKind.wrap .i64 (x1 + 1)) : Int)).toNat)))⟩ : Net)) else ((qd n (⟨x0.Bs,x0.Ls,((([] : List Say) ++ ((x0.Said.drop ((0 : Int)).toNat).take (((x1 : Int)).toNat - ((0 : Int)).toNat))) ++ ((x0.Said.drop (((IntKind.wrap .i64 (x1 + 1)) : Int)).toNat).take ((((x0.Said.length : Int) : Int)).toNat - (((IntKind.wrap .i64 (x1 + 1)) : Int)).toNat)))⟩ : Net) v1.Link).bind fun r6 => (bif (!r6) then (some (⟨x0.Bs,x0.Ls,((([] : List Say) ++ ((x0.Said.drop ((0 : Int)).toNat).take (((x1 : Int)).toNat - ((0 : Int)).toNat))) ++ ((x0.Said.drop (((IntKind.wrap .i64 (x1 + 1)) : Int)).toNat).take ((((x0.Said.length : Int) : Int)).toNat - (((IntKind.wrap .i64 (x1 + 1)) : Int)).toNat)))⟩ : Net)) else ((idx x0.Ls v1.Link).bind fun v7 => (bif v1.Back then ((Zq n (⟨x0.Bs,x0.Ls,((([] : List Say) ++ ((x0.Said.drop ((0 : Int)).toNat).take (((x1 : Int)).toNat - ((0 : Int)).toNat))) ++ ((x0.Said.drop (((IntKind.wrap .i64 (x1 + 1)) : Int)).toNat).take ((((x0.Said.length : Int) : Int)).toNat - (((IntKind.wrap .i64 (x1 + 1)) : Int)).toNat)))⟩ : Net) v7.A v7.P v1.V).bind fun r9 => (some r9)) else ((Zq n (⟨x0.Bs,x0.Ls,((([] : List Say) ++ ((x0.Said.drop ((0 : Int)).toNat).take (((x1 : Int)).toNat - ((0 : Int)).toNat))) ++ ((x0.Said.drop (((IntKind.wrap .i64 (x1 + 1)) : Int)).toNat).take ((((x0.Said.length : Int) : Int)).toNat - (((IntKind.wrap .i64 (x1 + 1)) : Int)).toNat)))⟩ : Net) v7.B v7.Q v1.V).bind fun r8 => (some r8))))))) else none) else none) else none) else none))
def zMl : Tab := ⟨19,[0,0,2,4,8,0,48,64,0,256,512,1024,0,4096,10240,16512,65535,131071,196607],[0,0,2,4,8,0,48,64,0,256,512,1024,0,4096,10240,16512,1,65536,163840],[0,0,2,6,14,0,62,126,0,256,768,1792,0,4096,16128,32766,65535,131071,262143]⟩
noncomputable abbrev G97 (k : Nat) := Rg Try.f97 k
noncomputable abbrev D97 (k : Nat) := Rd Try.f97 k
theorem YD : zY (rg Try.f97 1) zMl = true := kr
theorem zGb (n : Nat) (x0 : Net) (x1 : Int) (x2 : Bool) (r : Net) (H : ZY n x0 x1 x2 = some r) : zH Try.prog 97 [.ptr (Net.row x0),.val false [.lit (.int .i64 x1)],.val false [.lit (.bool x2)]] [] [(0,(Net.row r))] := by
 refine zH.of_body tOk Try.func97 rfl (c := (.seq (G97 0) (.seq (D97 1) (.seq (.seq (D97 2) (.cond (.tmp 43) .ret .skip)) (.seq (D97 3) (.seq (G97 4) (.cond (.tmp 53) (G97 5) (G97 6)))))))) kr (Nat.le_of_ble_eq_true kr) 1 (rs := []) rfl [] .nil [] [] [(0,(Net.row r))] fun cx => ?_
 show Tr _ _ _ ⟨70,1,[sA 0 0 3 0,sI 1 x1,sB 2 x2],[(0,(Net.row x0))]⟩ _
 unfold ZY at H
 refine rA 5 ?_
 obtain ⟨v1,ev1,H⟩ := bs H
 refine oA Say.row ev1 ?_
 refine dE (tI 80) (.box 0) [(0,0),(2,(x1.toNat))] 7 0 [.sl true 3 [(Net.row x0)]] (Say.row v1) (zO rfl (zK ev1).2) ?_
 refine uA 2 71 65 ?_
 refine Tr.frzP 0 2 1 ?_
 obtain ⟨hg2,H⟩ := gs H
 obtain ⟨hg3,H⟩ := gs H
 obtain ⟨hg4,H⟩ := gs H
 obtain ⟨hg5,H⟩ := gs H
 refine Tr.draws mixed 19 kr ⟨70,1,[sA 6 6 7 0,sA 0 0 3 0,sB 2 x2],[(0,[cL 11 x0.Bs zA.row,cL 4 x0.Ls Link.row,cL 7 ((([] : List Say) ++ ((x0.Said.drop ((0 : Int)).toNat).take (((x1 : Int)).toNat - ((0 : Int)).toNat))) ++ ((x0.Said.drop (((IntKind.wrap .i64 (x1 + 1)) : Int)).toNat).take ((((x0.Said.length : Int) : Int)).toNat - (((IntKind.wrap .i64 (x1 + 1)) : Int)).toNat))) Say.row]),(6,(Say.row v1))]⟩ (fun cx => ?_) ?_
 ·refine mA YD [(0,[]),(1,[]),(2,[]),(3,[]),(4,[6,7,15,18]),(5,[]),(8,[]),(9,[]),(10,[]),(11,[14,15,18]),(12,[]),(13,[])] 7 [⟨[14,15,18],66,25,26⟩,⟨[6,7,15,18],66,18,19⟩] fun cx => ?_
  refine mB2 tOk YD 6 14 kr (And.intro kr ?_) (And.intro kr ?_)
  ·refine LAt.cutG tOk (t := 66) (ty := 66) (e := 80) (x := (.tmp 19)) (lo := none) (hi := (some (.tmp 20))) (d := 21) (g := none) (tI 80) Say.row x0.Said ⟨(.box 0),[(0,0)],2,false,7,(CV.frzEs (x0.Said.map Say.row))⟩ 0 x1 kr kr kr kr kr kr rfl kr rfl kr kr hg2 ?_
   refine fA ?_
   refine mB2 tOk YD 7 14 kr (And.intro kr ?_) (And.intro kr ?_)
   ·refine LAt.appCU tOk (t := 66) (ty := 66) (e := 80) (x := (.const (.slice none 0 0))) (y := (.tmp 21)) (d := 22) (g := none) (tI 80) Say.row ([] : List Say) ((x0.Said.drop ((0 : Int)).toNat).take (((x1 : Int)).toNat - ((0 : Int)).toNat)) ⟨(.slot 21),[],0,false,7,(CV.frzEs (((x0.Said.drop ((0 : Int)).toNat).take (((x1 : Int)).toNat - ((0 : Int)).toNat)).map Say.row))⟩ kr kr kr kr kr kr kr kr kr kr kr (.inr rfl) (fun _ => rfl) (fun _ => rfl) hg3 ?_
    refine fA ?_
    refine mC YD 14 ?_
    refine LAt.cutG tOk (t := 66) (ty := 66) (e := 80) (x := (.tmp 26)) (lo := (some (.tmp 28))) (hi := none) (d := 29) (g := none) (tI 80) Say.row x0.Said ⟨(.box 0),[(0,0)],2,false,7,(CV.frzEs (x0.Said.map Say.row))⟩ (IntKind.wrap .i64 (x1 + 1)) (x0.Said.length : Int) kr kr kr kr kr kr rfl kr rfl kr kr hg4 ?_
    refine fA ?_
    refine mC YD 15 ?_
    refine pD Say.row hg5 ?_
    refine fA ?_
    refine mA YD [(16,[]),(17,[])] 1 [⟨[14,15,18],66,25,26⟩,⟨[6,7,15,18],66,18,19⟩] fun cx => ?_
    refine mC YD 18 ?_
    refine lA 1 ?_
    refine fA ?_
    exact mE YD [6,0,2] [0,6]
   ·refine LAt.cutG tOk (t := 66) (ty := 66) (e := 80) (x := (.tmp 26)) (lo := (some (.tmp 28))) (hi := none) (d := 29) (g := none) (tI 80) Say.row x0.Said ⟨(.box 0),[(0,0)],2,false,7,(CV.frzEs (x0.Said.map Say.row))⟩ (IntKind.wrap .i64 (x1 + 1)) (x0.Said.length : Int) kr kr kr kr kr kr rfl kr rfl kr kr hg4 ?_
    refine fA ?_
    refine mC YD 7 ?_
    refine LAt.appCU tOk (t := 66) (ty := 66) (e := 80) (x := (.const (.slice none 0 0))) (y := (.tmp 21)) (d := 22) (g := none) (tI 80) Say.row ([] : List Say) ((x0.Said.drop ((0 : Int)).toNat).take (((x1 : Int)).toNat - ((0 : Int)).toNat)) ⟨(.slot 21),[],0,false,7,(CV.frzEs (((x0.Said.drop ((0 : Int)).toNat).take (((x1 : Int)).toNat - ((0 : Int)).toNat)).map Say.row))⟩ kr kr kr kr kr kr kr kr kr kr kr (.inr rfl) (fun _ => rfl) (fun _ => rfl) hg3 ?_
    refine fA ?_
    refine mC YD 15 ?_
    refine pD Say.row hg5 ?_
    refine fA ?_
    refine mA YD [(16,[]),(17,[])] 1 [⟨[14,15,18],66,25,26⟩,⟨[6,7,15,18],66,18,19⟩] fun cx => ?_
    refine mC YD 18 ?_
    refine lA 1 ?_
    refine fA ?_
    exact mE YD [6,0,2] [0,6]
  ·refine LAt.cutG tOk (t := 66) (ty := 66) (e := 80) (x := (.tmp 26)) (lo := (some (.tmp 28))) (hi := none) (d := 29) (g := none) (tI 80) Say.row x0.Said ⟨(.box 0),[(0,0)],2,false,7,(CV.frzEs (x0.Said.map Say.row))⟩ (IntKind.wrap .i64 (x1 + 1)) (x0.Said.length : Int) kr kr kr kr kr kr rfl kr rfl kr kr hg4 ?_
   refine fA ?_
   refine mC YD 6 ?_
   refine LAt.cutG tOk (t := 66) (ty := 66) (e := 80) (x := (.tmp 19)) (lo := none) (hi := (some (.tmp 20))) (d := 21) (g := none) (tI 80) Say.row x0.Said ⟨(.box 0),[(0,0)],2,false,7,(CV.frzEs (x0.Said.map Say.row))⟩ 0 x1 kr kr kr kr kr kr rfl kr rfl kr kr hg2 ?_
   refine fA ?_
   refine mC YD 7 ?_
   refine LAt.appCU tOk (t := 66) (ty := 66) (e := 80) (x := (.const (.slice none 0 0))) (y := (.tmp 21)) (d := 22) (g := none) (tI 80) Say.row ([] : List Say) ((x0.Said.drop ((0 : Int)).toNat).take (((x1 : Int)).toNat - ((0 : Int)).toNat)) ⟨(.slot 21),[],0,false,7,(CV.frzEs (((x0.Said.drop ((0 : Int)).toNat).take (((x1 : Int)).toNat - ((0 : Int)).toNat)).map Say.row))⟩ kr kr kr kr kr kr kr kr kr kr kr (.inr rfl) (fun _ => rfl) (fun _ => rfl) hg3 ?_
   refine fA ?_
   refine mC YD 15 ?_
   refine pD Say.row hg5 ?_
   refine fA ?_
   refine mA YD [(16,[]),(17,[])] 1 [⟨[14,15,18],66,25,26⟩,⟨[6,7,15,18],66,18,19⟩] fun cx => ?_
   refine mC YD 18 ?_
   refine lA 1 ?_
   refine fA ?_
   exact mE YD [6,0,2] [0,6]
 refine tS ?_
 refine sT ⟨70,1,[sA 6 6 7 0,sA 0 0 3 0,sB 2 x2],[(0,[cL 11 x0.Bs zA.row,cL 4 x0.Ls Link.row,cL 7 ((([] : List Say) ++ ((x0.Said.drop ((0 : Int)).toNat).take (((x1 : Int)).toNat - ((0 : Int)).toNat))) ++ ((x0.Said.drop (((IntKind.wrap .i64 (x1 + 1)) : Int)).toNat).take ((((x0.Said.length : Int) : Int)).toNat - (((IntKind.wrap .i64 (x1 + 1)) : Int)).toNat))) Say.row]),(6,(Say.row v1))]⟩ ?_
 cases h1 : (!x2)
 ·have H := zF h1 H
  obtain ⟨r6,er6,H⟩ := bs H
  refine Tr.draws mixed 11 kr ⟨70,1,[sB 43 (!r6),sA 6 6 7 0,sA 0 0 3 0],[(0,[cL 11 x0.Bs zA.row,cL 4 x0.Ls Link.row,cL 7 ((([] : List Say) ++ ((x0.Said.drop ((0 : Int)).toNat).take (((x1 : Int)).toNat - ((0 : Int)).toNat))) ++ ((x0.Said.drop (((IntKind.wrap .i64 (x1 + 1)) : Int)).toNat).take ((((x0.Said.length : Int) : Int)).toNat - (((IntKind.wrap .i64 (x1 + 1)) : Int)).toNat))) Say.row]),(6,(Say.row v1))]⟩ (fun cx => ?_) ?_
  ·refine aA [(0,[]),(1,[]),(2,[])] 8 [] fun cx => ?_
   refine sA_ 34359738433 65 ⟨70,1,[sB 35 (!x2),sA 6 6 7 0,sA 0 0 3 0],[(0,[cL 11 x0.Bs zA.row,cL 4 x0.Ls Link.row,cL 7 ((([] : List Say) ++ ((x0.Said.drop ((0 : Int)).toNat).take (((x1 : Int)).toNat - ((0 : Int)).toNat))) ++ ((x0.Said.drop (((IntKind.wrap .i64 (x1 + 1)) : Int)).toNat).take ((((x0.Said.length : Int) : Int)).toNat - (((IntKind.wrap .i64 (x1 + 1)) : Int)).toNat))) Say.row]),(6,(Say.row v1))]⟩ ?_
   rw [h1]
   refine aA [(3,[]),(4,[]),(5,[8]),(6,[]),(7,[8])] 3 [⟨[8],3,39,40⟩,⟨[8],68,37,38⟩] fun cx => ?_
   refine bA 8 ?_
   refine vB [.rd,.rd] [.box 0] (zAg n (⟨x0.Bs,x0.Ls,((([] : List Say) ++ ((x0.Said.drop ((0 : Int)).toNat).take (((x1 : Int)).toNat - ((0 : Int)).toNat))) ++ ((x0.Said.drop (((IntKind.wrap .i64 (x1 + 1)) : Int)).toNat).take ((((x0.Said.length : Int) : Int)).toNat - (((IntKind.wrap .i64 (x1 + 1)) : Int)).toNat)))⟩ : Net) v1.Link r6 er6) (.inr (zZ (zI zM zx) z6)) ?_
   refine fA ?_
   refine aA [(9,[]),(10,[])] 0 [⟨[8],3,39,40⟩,⟨[8],68,37,38⟩] fun cx => ?_
   exact eE [43,6,0] [0,6]
  refine sT ⟨70,1,[sB 43 (!r6),sA 6 6 7 0,sA 0 0 3 0],[(0,[cL 11 x0.Bs zA.row,cL 4 x0.Ls Link.row,cL 7 ((([] : List Say) ++ ((x0.Said.drop ((0 : Int)).toNat).take (((x1 : Int)).toNat - ((0 : Int)).toNat))) ++ ((x0.Said.drop (((IntKind.wrap .i64 (x1 + 1)) : Int)).toNat).take ((((x0.Said.length : Int) : Int)).toNat - (((IntKind.wrap .i64 (x1 + 1)) : Int)).toNat))) Say.row]),(6,(Say.row v1))]⟩ ?_
  cases h2 : (!r6)
  ·have H := zF h2 H
   refine nB_ ?_
   refine tK ?_
   obtain ⟨v7,ev7,H⟩ := bs H
   refine Tr.draws mixed 10 kr ⟨70,1,[sA 7 7 4 0,sA 6 6 7 0,sA 0 0 3 0],[(7,(Link.row v7)),(0,[cL 11 x0.Bs zA.row,cL 4 x0.Ls Link.row,cL 7 ((([] : List Say) ++ ((x0.Said.drop ((0 : Int)).toNat).take (((x1 : Int)).toNat - ((0 : Int)).toNat))) ++ ((x0.Said.drop (((IntKind.wrap .i64 (x1 + 1)) : Int)).toNat).take ((((x0.Said.length : Int) : Int)).toNat - (((IntKind.wrap .i64 (x1 + 1)) : Int)).toNat))) Say.row]),(6,(Say.row v1))]⟩ (fun cx => ?_) ?_
   ·refine aA [(0,[]),(1,[]),(2,[]),(3,[9]),(4,[]),(5,[9])] 4 [⟨[9],3,48,49⟩,⟨[9],65,46,47⟩] fun cx => ?_
    refine aO tOk 6 65 0 47 49 50 none ⟨(.box 0),[(0,0)],1,true,4,(x0.Ls.map Link.row)⟩ v1.Link (v1.Link.toNat) (Link.row v7) _ kr kr kr kr kr kr rfl kr (Q4 ev7) rfl rfl (fun cx => ?_)
    refine AT.big2 tOk 7 8 kr (And.intro kr ?_) (And.intro kr ?_)
    ·refine dE (tI 78) (.box 0) [(0,0),(1,(v1.Link.toNat))] 4 0 [.sl true 3 [[cL 11 x0.Bs zA.row,cL 4 x0.Ls Link.row,cL 7 ((([] : List Say) ++ ((x0.Said.drop ((0 : Int)).toNat).take (((x1 : Int)).toNat - ((0 : Int)).toNat))) ++ ((x0.Said.drop (((IntKind.wrap .i64 (x1 + 1)) : Int)).toNat).take ((((x0.Said.length : Int) : Int)).toNat - (((IntKind.wrap .i64 (x1 + 1)) : Int)).toNat))) Say.row]]] (Link.row v7) (zO rfl (zK ev7).2) ?_
     refine fA ?_
     refine bA 8 ?_
     refine lA 1 ?_
     refine fA ?_
     refine bA 9 ?_
     refine lA 1 ?_
     refine fA ?_
     exact eE [7,6,0] [7,0,6]
    ·refine lA 1 ?_
     refine fA ?_
     refine bA 7 ?_
     refine dE (tI 78) (.box 0) [(0,0),(1,(v1.Link.toNat))] 4 0 [.sl true 3 [[cL 11 x0.Bs zA.row,cL 4 x0.Ls Link.row,cL 7 ((([] : List Say) ++ ((x0.Said.drop ((0 : Int)).toNat).take (((x1 : Int)).toNat - ((0 : Int)).toNat))) ++ ((x0.Said.drop (((IntKind.wrap .i64 (x1 + 1)) : Int)).toNat).take ((((x0.Said.length : Int) : Int)).toNat - (((IntKind.wrap .i64 (x1 + 1)) : Int)).toNat))) Say.row]]] (Link.row v7) (zO rfl (zK ev7).2) ?_
     refine fA ?_
     refine bA 9 ?_
     refine lA 1 ?_
     refine fA ?_
     exact eE [7,6,0] [7,0,6]
   refine gA 2 9007199254741185 193 ?_
   refine sT ⟨70,1,[sB 53 v1.Back,sA 7 7 4 0,sA 6 6 7 0,sA 0 0 3 0],[(7,(Link.row v7)),(0,[cL 11 x0.Bs zA.row,cL 4 x0.Ls Link.row,cL 7 ((([] : List Say) ++ ((x0.Said.drop ((0 : Int)).toNat).take (((x1 : Int)).toNat - ((0 : Int)).toNat))) ++ ((x0.Said.drop (((IntKind.wrap .i64 (x1 + 1)) : Int)).toNat).take ((((x0.Said.length : Int) : Int)).toNat - (((IntKind.wrap .i64 (x1 + 1)) : Int)).toNat))) Say.row]),(6,(Say.row v1))]⟩ ?_
   cases h3 : v1.Back
   ·have H := zF h3 H
    refine nB_ ?_
    refine Tr.at ?_
    refine lA 7 ?_
    obtain ⟨r8,er8,H⟩ := bs H
    refine LAt.callL tOk [.lend,.rd,.rd,.rd] (f := 113) (av := #[.tmp 62,.tmp 64,.tmp 66,.tmp 68]) (ats := #[171,3,3,35]) (d := (some 69)) (ty := 0) (g := none) kr kr kr [] (zET n (⟨x0.Bs,x0.Ls,((([] : List Say) ++ ((x0.Said.drop ((0 : Int)).toNat).take (((x1 : Int)).toNat - ((0 : Int)).toNat))) ++ ((x0.Said.drop (((IntKind.wrap .i64 (x1 + 1)) : Int)).toNat).take ((((x0.Said.length : Int) : Int)).toNat - (((IntKind.wrap .i64 (x1 + 1)) : Int)).toNat)))⟩ : Net) v7.B v7.Q v1.V r8 er8) kr (.inl rfl) ?_
    refine dA 1 1 ?_
    obtain rfl := si H
    exact Fin.ofY _ [] [] _ [] _ [(0,(Net.row r8))] kr rfl rfl rfl kr kr kr kr rfl rfl rfl
   have H := zG h3 H
   refine tB_ ?_
   refine Tr.at ?_
   refine lA 7 ?_
   obtain ⟨r9,er9,H⟩ := bs H
   refine LAt.callL tOk [.lend,.rd,.rd,.rd] (f := 113) (av := #[.tmp 54,.tmp 56,.tmp 58,.tmp 60]) (ats := #[171,3,3,35]) (d := (some 61)) (ty := 0) (g := none) kr kr kr [] (zET n (⟨x0.Bs,x0.Ls,((([] : List Say) ++ ((x0.Said.drop ((0 : Int)).toNat).take (((x1 : Int)).toNat - ((0 : Int)).toNat))) ++ ((x0.Said.drop (((IntKind.wrap .i64 (x1 + 1)) : Int)).toNat).take ((((x0.Said.length : Int) : Int)).toNat - (((IntKind.wrap .i64 (x1 + 1)) : Int)).toNat)))⟩ : Net) v7.A v7.P v1.V r9 er9) kr (.inl rfl) ?_
   refine dA 1 1 ?_
   obtain rfl := si H
   exact Fin.ofY _ [] [] _ [] _ [(0,(Net.row r9))] kr rfl rfl rfl kr kr kr kr rfl rfl rfl
  have H := zG h2 H
  refine tB_ ?_
  refine te ?_
  obtain rfl := si H
  exact Fin.ofY _ [] [] _ [] _ [(0,[cL 11 x0.Bs zA.row,cL 4 x0.Ls Link.row,cL 7 ((([] : List Say) ++ ((x0.Said.drop ((0 : Int)).toNat).take (((x1 : Int)).toNat - ((0 : Int)).toNat))) ++ ((x0.Said.drop (((IntKind.wrap .i64 (x1 + 1)) : Int)).toNat).take ((((x0.Said.length : Int) : Int)).toNat - (((IntKind.wrap .i64 (x1 + 1)) : Int)).toNat))) Say.row])] kr rfl rfl rfl kr kr kr kr rfl rfl rfl
 have H := zG h1 H
 refine Tr.draws mixed 11 kr ⟨70,1,[sB 43 true,sA 6 6 7 0,sA 0 0 3 0],[(0,[cL 11 x0.Bs zA.row,cL 4 x0.Ls Link.row,cL 7 ((([] : List Say) ++ ((x0.Said.drop ((0 : Int)).toNat).take (((x1 : Int)).toNat - ((0 : Int)).toNat))) ++ ((x0.Said.drop (((IntKind.wrap .i64 (x1 + 1)) : Int)).toNat).take ((((x0.Said.length : Int) : Int)).toNat - (((IntKind.wrap .i64 (x1 + 1)) : Int)).toNat))) Say.row]),(6,(Say.row v1))]⟩ (fun cx => ?_) ?_
 ·refine aA [(0,[]),(1,[]),(2,[])] 8 [] fun cx => ?_
  refine sA_ 34359738433 65 ⟨70,1,[sB 35 (!x2),sA 6 6 7 0,sA 0 0 3 0],[(0,[cL 11 x0.Bs zA.row,cL 4 x0.Ls Link.row,cL 7 ((([] : List Say) ++ ((x0.Said.drop ((0 : Int)).toNat).take (((x1 : Int)).toNat - ((0 : Int)).toNat))) ++ ((x0.Said.drop (((IntKind.wrap .i64 (x1 + 1)) : Int)).toNat).take ((((x0.Said.length : Int) : Int)).toNat - (((IntKind.wrap .i64 (x1 + 1)) : Int)).toNat))) Say.row]),(6,(Say.row v1))]⟩ ?_
  rw [h1]
  refine aA [(3,[]),(4,[]),(5,[]),(6,[]),(7,[]),(8,[]),(9,[]),(10,[])] 0 [] fun cx => ?_
  exact eE [43,6,0] [0,6]
 refine tB_ ?_
 refine te ?_
 obtain rfl := si H
 exact Fin.ofY _ [] [] _ [] _ [(0,[cL 11 x0.Bs zA.row,cL 4 x0.Ls Link.row,cL 7 ((([] : List Say) ++ ((x0.Said.drop ((0 : Int)).toNat).take (((x1 : Int)).toNat - ((0 : Int)).toNat))) ++ ((x0.Said.drop (((IntKind.wrap .i64 (x1 + 1)) : Int)).toNat).take ((((x0.Said.length : Int) : Int)).toNat - (((IntKind.wrap .i64 (x1 + 1)) : Int)).toNat))) Say.row])] kr rfl rfl rfl kr kr kr kr rfl rfl rfl
def Qf (n : Nat) (x0 : zA) (x1 : Int) (x2 : Bool) : Option (zA) :=
  ((ZF n x0).bind fun r1 => ((Y2 n x0 x1).bind fun r2 => (bif r2 then ((idx x0.Ps x1).bind fun v3 => ((idx r1.Ps x1).bind fun v4 => ((q4 n (⟨r1.Id,r1.Name,(r1.Ps.set (x1.toNat) (⟨x2,v3.Co,false,(⟨0,0,0,0,0⟩ : Vec)⟩ : Pt)),r1.F,r1.V,r1.Tk,r1.Pa,r1.Wo,r1.Dr,r1.Ve⟩ : zA)).bind fun r5 => (some r5)))) else (some r1))))
def zMa : Tab := ⟨13,[0,1,0,0,0,16,0,96,128,256,520,2047,4095],[0,1,0,0,0,16,0,96,128,256,520,6,3072],[0,1,0,0,0,16,0,112,240,496,1016,2047,4095]⟩
theorem zD4 : zY (rg Try.f13 3) zMa = true := kr
theorem zEu (n : Nat) (x0 : zA) (x1 : Int) (x2 : Bool) (r : zA) (H : Qf n x0 x1 x2 = some r) : zH Try.prog 13 [.val true (CV.frzRow (zA.row x0)),.val false [.lit (.int .i64 x1)],.val false [.lit (.bool x2)]] [.val true (zA.row r)] [] := by
 refine cW Try.func13 (fun g d => sl [g 0,g 1,sl [g 2] (cn 12 (sl [d 3] (g 4)) .skip),g 5] .ret) [.cell 6 31] fun cx => ?_
 unfold Qf at H
 refine gA 2 78 72 ?_
 refine rA 1 ?_
 obtain ⟨r1,er1,H⟩ := bs H
 refine vA [.rd] (Jj n x0 r1 er1) ?_
 refine uA 2 206 200 ?_
 refine tS ?_
 refine rA 2 ?_
 obtain ⟨r2,er2,H⟩ := bs H
 refine vA [.rd,.rd] (zFl n x0 x1 r2 er2) ?_
 refine dA 4302 200 ?_
 cases h1 : r2
 ·have H := zF h1 H
  refine nB_ ?_
  refine tK ?_
  refine gA 2 64 64 ?_
  exact te (fJ [(true,(zA.row r1))] H)
 have H := zG h1 H
 refine tB_ ?_
 obtain ⟨v3,ev3,H⟩ := bs H
 obtain ⟨v4,ev4,H⟩ := bs H
 refine Tr.draws mixed 13 kr ⟨27,0,[sA 7 7 11 0,sA 6 6 11 0],[(7,[cI r1.Id,cS r1.Name,cL 8 (r1.Ps.set (x1.toNat) (⟨x2,v3.Co,false,(⟨0,0,0,0,0⟩ : Vec)⟩ : Pt)) Pt.row,cL 5 r1.F zB.row,cL 3 r1.V.Rows zD.row,cL 1 r1.V.Pv intRow,cI r1.Tk,cI r1.Pa,cI r1.Wo,cI r1.Dr,cI r1.Ve]),(6,[cI 0,cS (⟨#[]⟩ : ByteArray),cL 8 ([] : List Pt) Pt.row,cL 5 ([] : List zB) zB.row,cL 3 ([] : List zD) zD.row,cL 1 ([] : List Int) intRow,cI 0,cI 0,cI 0,cI 0,cI 0])]⟩ (fun cx => ?_) ?_
 ·refine mA zD4 [(0,[]),(1,[12]),(2,[]),(3,[]),(4,[]),(5,[10,12]),(6,[])] 6 [⟨[10,12],24,17,18⟩,⟨[12],24,13,14⟩] fun cx => ?_
  refine iN zD4 7 Pt.row ev3 fun cx => ?_
  refine mA zD4 [(8,[]),(9,[])] 3 [⟨[10,12],24,17,18⟩,⟨[12],24,13,14⟩] fun cx => ?_
  refine mC zD4 10 ?_
  refine lA 1 ?_
  refine fA ?_
  refine oN zD4 11 Pt.row ev4 fun cx => ?_
  refine mC zD4 12 ?_
  refine LAt.storeB tOk (t := 44) (ty := 0) (ad := (.tmp 24)) (x := (.tmp 23)) (g := none) (tI 44) true [cB x2,cI v3.Co,cB false,cI 0,cI 0,cI 0,cI 0,cI 0] 7 2 (x1.toNat) 8 0 8 r1.Ps Pt.row v4 (⟨x2,v3.Co,false,(⟨0,0,0,0,0⟩ : Vec)⟩ : Pt) kr kr kr kr kr kr kr kr (zK ev4).2 kr kr kr kr ?_
  refine fA ?_
  exact mE zD4 [7,6] [7,6]
 refine Tr.at ?_
 obtain ⟨r5,er5,H⟩ := bs H
 refine LAt.callL tOk [.lend] (f := 60) (av := #[.tmp 7]) (ats := #[31]) (d := (some 25)) (ty := 0) (g := none) kr kr kr [] (zA5 n (⟨r1.Id,r1.Name,(r1.Ps.set (x1.toNat) (⟨x2,v3.Co,false,(⟨0,0,0,0,0⟩ : Vec)⟩ : Pt)),r1.F,r1.V,r1.Tk,r1.Pa,r1.Wo,r1.Dr,r1.Ve⟩ : zA) r5 er5) kr (.inl rfl) ?_
 refine dA 192 192 ?_
 refine gA 2 64 64 ?_
 exact te (fJ [(true,(zA.row r5))] H)
def QQ (n : Nat) (x0 : Net) (x1 : Int) (x2 : Bool) : Option (Net) :=
  ((qd n x0 x1).bind fun r1 => (bif (r1 == x2) then (some x0) else ((idx x0.Ls x1).bind fun v2 => ((idx x0.Bs v2.A).bind fun v3 => ((Qf n v3 v2.P x2).bind fun r4 => ((idx (x0.Bs.set (v2.A.toNat) r4) v2.B).bind fun v5 => ((Qf n v5 v2.Q x2).bind fun r6 => (some (⟨((x0.Bs.set (v2.A.toNat) r4).set (v2.B.toNat) r6),x0.Ls,x0.Said⟩ : Net)))))))))
def zMm : Tab := ⟨20,[0,1,2,4,0,16,0,64,128,256,0,1024,2560,4096,0,16384,0,106496,262143,524287],[0,1,2,4,0,16,0,64,128,256,0,1024,2560,4096,0,16384,0,106496,40,393216],[0,1,3,7,0,16,0,64,192,448,0,1024,4032,8128,0,16384,0,131008,262143,524287]⟩
noncomputable abbrev G98 (k : Nat) := Rg Try.f98 k
noncomputable abbrev D98 (k : Nat) := Rd Try.f98 k
theorem zDF : zY (rg Try.f98 2) zMm = true := kr
def zMn : Tab := ⟨20,[0,1,2,4,0,16,0,64,128,256,0,1024,2560,4096,0,16384,0,106496,262143,524287],[0,1,2,4,0,16,0,64,128,256,0,1024,2560,4096,0,16384,0,106496,40,393216],[0,1,3,7,0,16,0,64,192,448,0,1024,4032,8128,0,16384,0,131008,262143,524287]⟩
theorem zDG : zY (rg Try.f98 3) zMn = true := kr
theorem zH3 (n : Nat) (x0 : Net) (x1 : Int) (x2 : Bool) (r : Net) (H : QQ n x0 x1 x2 = some r) : zH Try.prog 98 [.ptr (Net.row x0),.val false [.lit (.int .i64 x1)],.val false [.lit (.bool x2)]] [] [(0,(Net.row r))] := by
 refine zH.of_body tOk Try.func98 rfl (c := (.seq (.seq (G98 0) (.cond (.tmp 13) .ret .skip)) (.seq (G98 1) (.seq (D98 2) (D98 3))))) kr (Nat.le_of_ble_eq_true kr) 1 (rs := []) rfl [] .nil [] [] [(0,(Net.row r))] fun cx => ?_
 show Tr _ _ _ ⟨59,1,[sA 0 0 3 0,sI 1 x1,sB 2 x2],[(0,(Net.row x0))]⟩ _
 unfold QQ at H
 refine tS ?_
 refine rA 4 ?_
 obtain ⟨r1,er1,H⟩ := bs H
 refine vB [.rd,.rd] [.box 0] (zAg n x0 x1 r1 er1) (.inr (zZ (zI zM zx) z6)) ?_
 refine uA 2 8199 1 ?_
 obtain ⟨h1,H⟩ | ⟨h1,H⟩ := bC H
 ·refine nA h1 ?_
  refine tK ?_
  refine rA 5 ?_
  obtain ⟨v2,ev2,H⟩ := bs H
  refine oA Link.row ev2 ?_
  refine dE (tI 78) (.box 0) [(0,0),(1,(x1.toNat))] 4 0 [.sl true 3 [(Net.row x0)]] (Link.row v2) (zO rfl (zK ev2).2) ?_
  refine uA 2 69 65 ?_
  obtain ⟨v3,ev3,H⟩ := bs H
  obtain ⟨r4,er4,H⟩ := bs H
  refine Tr.draws mixed 20 kr ⟨59,1,[sA 6 6 4 0,sA 0 0 3 0,sB 2 x2],[(0,[cL 11 (x0.Bs.set (v2.A.toNat) r4) zA.row,cL 4 x0.Ls Link.row,cL 7 x0.Said Say.row]),(6,(Link.row v2))]⟩ (fun cx => ?_) ?_
  ·refine mA zDF [(0,[]),(1,[]),(2,[]),(3,[19]),(4,[]),(5,[19]),(6,[]),(7,[]),(8,[]),(9,[17,19]),(10,[]),(11,[17,19])] 8 [⟨[17,19],3,31,32⟩,⟨[17,19],42,29,30⟩,⟨[19],3,25,26⟩,⟨[19],42,23,24⟩] fun cx => ?_
   refine oN zDF 12 zA.row ev3 fun cx => ?_
   refine mA zDF [(14,[]),(15,[17,19]),(16,[])] 4 [⟨[17,19],3,35,36⟩,⟨[17,19],3,31,32⟩,⟨[17,19],42,29,30⟩,⟨[19],3,25,26⟩,⟨[19],42,23,24⟩] fun cx => ?_
   refine mC zDF 13 ?_
   refine dE (tI 31) (.box 0) [(0,0),(0,(v2.A.toNat))] 11 0 [.sl true 3 [(Net.row x0)]] (zA.row v3) (zO rfl (zK ev3).2) ?_
   refine fA ?_
   refine mC zDF 17 ?_
   refine LAt.callO tOk [.rd,.rd,.rd] (f := 13) (av := #[.tmp 34,.tmp 36,.tmp 37]) (ats := #[31,3,4]) (d := (some 38)) (ty := 31) (g := none) [(34,zA.row v3)] none kr kr kr [.box 0] (zEu n v3 v2.P x2 r4 er4) (J6 (row := [.sl true 3 [(Net.row x0)]]) (q := [(0,0),(0,(v2.A.toNat))]) kr (zO rfl (zK ev3).2) zBE) kr zBD (.inr (And.intro (zZ (zA.row_mine _) z6) J7)) ?_
   refine fA ?_
   refine oN zDF 18 zA.row ev3 fun cx => ?_
   refine mC zDF 19 ?_
   refine LAt.storeB tOk (t := 31) (ty := 0) (ad := (.tmp 39)) (x := (.tmp 38)) (g := none) (tI 31) true (zA.row r4) 0 0 (v2.A.toNat) 11 0 11 x0.Bs zA.row v3 r4 kr kr kr kr kr kr kr kr (zK ev3).2 kr kr kr kr ?_
   refine fA ?_
   exact mE zDF [6,0,2] [0,6]
  obtain ⟨v5,ev5,H⟩ := bs H
  obtain ⟨r6,er6,H⟩ := bs H
  refine Tr.draw mixed 20 kr ⟨59,1,[sA 0 0 3 0],[(0,[cL 11 ((x0.Bs.set (v2.A.toNat) r4).set (v2.B.toNat) r6) zA.row,cL 4 x0.Ls Link.row,cL 7 x0.Said Say.row])]⟩ (fun cx => ?_) ?_
  ·refine mA zDG [(0,[]),(1,[]),(2,[]),(3,[19]),(4,[]),(5,[19]),(6,[]),(7,[]),(8,[]),(9,[17,19]),(10,[]),(11,[17,19])] 8 [⟨[17,19],3,50,51⟩,⟨[17,19],42,48,49⟩,⟨[19],3,44,45⟩,⟨[19],42,42,43⟩] fun cx => ?_
   refine oN zDG 12 zA.row ev5 fun cx => ?_
   refine mA zDG [(14,[]),(15,[17,19]),(16,[])] 4 [⟨[17,19],3,54,55⟩,⟨[17,19],3,50,51⟩,⟨[17,19],42,48,49⟩,⟨[19],3,44,45⟩,⟨[19],42,42,43⟩] fun cx => ?_
   refine mC zDG 13 ?_
   refine dE (tI 31) (.box 0) [(0,0),(0,(v2.B.toNat))] 11 0 [.sl true 3 [[cL 11 (x0.Bs.set (v2.A.toNat) r4) zA.row,cL 4 x0.Ls Link.row,cL 7 x0.Said Say.row]]] (zA.row v5) (zO rfl (zK ev5).2) ?_
   refine fA ?_
   refine mC zDG 17 ?_
   refine LAt.callO tOk [.rd,.rd,.rd] (f := 13) (av := #[.tmp 53,.tmp 55,.tmp 56]) (ats := #[31,3,4]) (d := (some 57)) (ty := 31) (g := none) [(53,zA.row v5)] none kr kr kr [.box 0] (zEu n v5 v2.Q x2 r6 er6) (J6 (row := [.sl true 3 [[cL 11 (x0.Bs.set (v2.A.toNat) r4) zA.row,cL 4 x0.Ls Link.row,cL 7 x0.Said Say.row]]]) (q := [(0,0),(0,(v2.B.toNat))]) kr (zO rfl (zK ev5).2) zBE) kr zBD (.inr (And.intro (zZ (zA.row_mine _) z6) J7)) ?_
   refine fA ?_
   refine oN zDG 18 zA.row ev5 fun cx => ?_
   refine mC zDG 19 ?_
   refine LAt.storeB tOk (t := 31) (ty := 0) (ad := (.tmp 58)) (x := (.tmp 57)) (g := none) (tI 31) true (zA.row r6) 0 0 (v2.B.toNat) 11 0 11 (x0.Bs.set (v2.A.toNat) r4) zA.row v5 r6 kr kr kr kr kr kr kr kr (zK ev5).2 kr kr kr kr ?_
   refine fA ?_
   exact mE zDG [0] [0]
  obtain rfl := si H
  exact Fin.ofY _ [] [] _ [] _ [(0,[cL 11 ((x0.Bs.set (v2.A.toNat) r4).set (v2.B.toNat) r6) zA.row,cL 4 x0.Ls Link.row,cL 7 x0.Said Say.row])] kr rfl rfl rfl kr kr kr kr rfl rfl rfl
 refine tA h1 ?_
 refine te ?_
 obtain rfl := si H
 exact Fin.ofY _ [] [] _ [] _ [(0,(Net.row x0))] kr rfl rfl rfl kr kr kr kr rfl rfl rfl
def QY (n : Nat) (r1 : Net) (x1 : Event) (y5 : Bool) : Option (Net × Bool) :=
  (bif y5 then ((ZY n r1 x1.At (x1.Ki == 2)).bind fun r7 => (some (r7,true))) else ((QQ n r1 x1.At (x1.Ki == 5)).bind fun r6 => (some (r6,true))))
def qe (n : Nat) (r1 : Net) (x0 : Net) (x1 : Event) (y3 : Int) : Option (Net × Bool) :=
  ((qI n x1.At 0 (IntKind.wrap .i64 (y3 - 1))).bind fun r4 => (bif (!r4) then (some (r1,false)) else (bif (x1.Ki == 1) then ((Yg n r1 x1.At).bind fun r11 => (some (r11,true))) else (bif (x1.Ki == 6) then ((idx x0.Bs x1.At).bind fun v8 => ((zAI n v8).bind fun r9 => ((idx r1.Bs x1.At).bind fun v10 => (some ((⟨(r1.Bs.set (x1.At.toNat) r9),r1.Ls,r1.Said⟩ : Net),true))))) else (bif (x1.Ki == 2) then (QY n r1 x1 true) else (QY n r1 x1 (x1.Ki == 3)))))))
def ZZ (n : Nat) (r1 : Net) (x0 : Net) (x1 : Event) (y13 : Bool) : Option (Net × Bool) :=
  (bif y13 then (qe n r1 x0 x1 (x0.Said.length : Int)) else (bif (x1.Ki == 4) then (qe n r1 x0 x1 (x0.Ls.length : Int)) else (bif (x1.Ki == 5) then (qe n r1 x0 x1 (x0.Ls.length : Int)) else (qe n r1 x0 x1 0))))
def qv (n : Nat) (r1 : Net) (x0 : Net) (x1 : Event) (y12 : Bool) : Option (Net × Bool) :=
  (bif y12 then (qe n r1 x0 x1 (x0.Bs.length : Int)) else (bif (x1.Ki == 2) then (ZZ n r1 x0 x1 true) else (ZZ n r1 x0 x1 (x1.Ki == 3))))
def ZT (n : Nat) (x0 : Net) (x1 : Event) : Option (Net × Bool) :=
  ((JV n x0).bind fun r1 => ((QU n x0).bind fun r2 => (bif (!r2) then (some (r1,false)) else (bif (x1.Ki == 1) then (qv n r1 x0 x1 true) else (qv n r1 x0 x1 (x1.Ki == 6))))))
def zMK : Tab := ⟨13,[0,1,0,4,0,16,0,64,160,256,512,2047,4095],[0,1,0,4,0,16,0,64,160,256,512,10,3072],[0,1,0,4,0,16,0,64,240,496,1008,2047,4095]⟩
theorem zCr : zY (rg Try.f29 22) zMK = true := kr
theorem zDM (n : Nat) (x0 : Net) (x1 : Event) (r : Net × Bool) (H : ZT n x0 x1 = some r) : zH Try.prog 29 [.val true (CV.frzRow (Net.row x0)),.val true (CV.frzRow (Event.row x1))] [.val true (Net.row r.1),.val false [.lit (.bool r.2)]] [] := by
 refine cW Try.func29 (fun g d => sl [g 0,g 1,sl [g 2] (cn 12 (sl [g 3] .ret) .skip),g 4,sl [g 5] (.block 0 (sl [sl [g 6] (cn 16 .skip (g 7))] (cn 16 (g 8) (sl [sl [g 9] (cn 22 .skip (g 10))] (cn 22 (g 11) (sl [sl [g 12] (cn 28 .skip (g 13))] (cn 28 (g 14) .skip))))))),sl [g 15] (cn 39 (sl [g 16] .ret) .skip),sl [g 17] (.block 1 (sl [g 19] (cn 49 (g 20) (sl [g 21] (cn 54 (d 22) (sl [sl [g 23] (cn 68 .skip (g 24))] (cn 68 (g 25) (g 18)))))))),g 26] .ret) [.cell 4 68,.tmp 5] fun cx => ?_
 unfold ZT at H
 refine gA 4 28 28 ?_
 refine rA 1 ?_
 obtain ⟨r1,er1,H⟩ := bs H
 refine vA [.rd] (zIb n x0 r1 er1) ?_
 refine uA 2 92 92 ?_
 refine tS ?_
 refine rA 1 ?_
 obtain ⟨r2,er2,H⟩ := bs H
 refine vA [.rd] (zJx n x0 r2 er2) ?_
 refine uA 1 4188 92 ?_
 obtain ⟨h1,H⟩ | ⟨h1,H⟩ := bC H
 ·refine nA h1 ?_
  refine tK ?_
  refine gA 1 220 92 ?_
  refine tS ?_
  refine Tr.mid (ι := Int) (fun v => ⟨78,0,[sI 7 v,sA 6 6 3 0,sA 4 4 3 0,sA 3 3 2 0,sA 2 2 3 0],[(6,(Net.row r1)),(4,[cL 11 ([] : List zA) zA.row,cL 4 ([] : List Link) Link.row,cL 7 ([] : List Say) Say.row]),(3,(Event.row x1)),(2,(CV.frzRow (Net.row x0)))]⟩) (fun v => qe n r1 x0 x1 v = some r) ?_ ?_
  ·refine gA 2 32988 92 ?_
   refine tB ?_
   refine tS ?_
   refine Tr.mid (ι := Bool) (fun v => ⟨78,0,[sB 16 v,sI 15 x1.Ki,sI 7 0,sA 6 6 3 0,sA 4 4 3 0,sA 3 3 2 0,sA 2 2 3 0],[(6,(Net.row r1)),(4,[cL 11 ([] : List zA) zA.row,cL 4 ([] : List Link) Link.row,cL 7 ([] : List Say) Say.row]),(3,(Event.row x1)),(2,(CV.frzRow (Net.row x0)))]⟩) (fun v => qv n r1 x0 x1 v = some r) ?_ ?_
   ·refine gA 2 98524 92 ?_
    refine sT ⟨78,0,[sB 16 (x1.Ki == 1),sI 15 x1.Ki,sI 7 0,sA 6 6 3 0,sA 4 4 3 0,sA 3 3 2 0,sA 2 2 3 0],[(6,(Net.row r1)),(4,[cL 11 ([] : List zA) zA.row,cL 4 ([] : List Link) Link.row,cL 7 ([] : List Say) Say.row]),(3,(Event.row x1)),(2,(CV.frzRow (Net.row x0)))]⟩ ?_
    cases h12 : (x1.Ki == 1)
    ·have H := zF h12 H
     refine nB_ ?_
     refine eA 2 98524 92 ?_
     exact jA (x1.Ki == 6) H [16,15,7,6,4,3,2] [6,4,3,2]
    have H := zG h12 H
    refine tB_ ?_
    refine tK ?_
    exact jA true H [16,15,7,6,4,3,2] [6,4,3,2]
   rintro y12 H
   have H : (qv n r1 x0 x1 y12) = some r := H
   unfold qv at H
   cases h7 : y12
   ·have H := zF h7 H
    refine nB_ ?_
    refine tS ?_
    refine Tr.mid (ι := Bool) (fun v => ⟨78,0,[sB 22 v,sI 15 x1.Ki,sI 7 0,sA 6 6 3 0,sA 4 4 3 0,sA 3 3 2 0,sA 2 2 3 0],[(6,(Net.row r1)),(4,[cL 11 ([] : List zA) zA.row,cL 4 ([] : List Link) Link.row,cL 7 ([] : List Say) Say.row]),(3,(Event.row x1)),(2,(CV.frzRow (Net.row x0)))]⟩) (fun v => ZZ n r1 x0 x1 v = some r) ?_ ?_
    ·refine gA 2 4227292 92 ?_
     refine sT ⟨78,0,[sB 22 (x1.Ki == 2),sI 15 x1.Ki,sI 7 0,sA 6 6 3 0,sA 4 4 3 0,sA 3 3 2 0,sA 2 2 3 0],[(6,(Net.row r1)),(4,[cL 11 ([] : List zA) zA.row,cL 4 ([] : List Link) Link.row,cL 7 ([] : List Say) Say.row]),(3,(Event.row x1)),(2,(CV.frzRow (Net.row x0)))]⟩ ?_
     cases h11 : (x1.Ki == 2)
     ·have H := zF h11 H
      refine nB_ ?_
      refine eA 2 4227292 92 ?_
      exact jA (x1.Ki == 3) H [22,15,7,6,4,3,2] [6,4,3,2]
     have H := zG h11 H
     refine tB_ ?_
     refine tK ?_
     exact jA true H [22,15,7,6,4,3,2] [6,4,3,2]
    rintro y13 H
    have H : (ZZ n r1 x0 x1 y13) = some r := H
    unfold ZZ at H
    cases h8 : y13
    ·have H := zF h8 H
     refine nB_ ?_
     refine tS ?_
     refine gA 2 268468444 92 ?_
     refine sT ⟨78,0,[sB 28 (x1.Ki == 4),sI 15 x1.Ki,sI 7 0,sA 6 6 3 0,sA 4 4 3 0,sA 3 3 2 0,sA 2 2 3 0],[(6,(Net.row r1)),(4,[cL 11 ([] : List zA) zA.row,cL 4 ([] : List Link) Link.row,cL 7 ([] : List Say) Say.row]),(3,(Event.row x1)),(2,(CV.frzRow (Net.row x0)))]⟩ ?_
     cases h9 : (x1.Ki == 4)
     ·have H := zF h9 H
      refine nB_ ?_
      refine eA 2 268435676 92 ?_
      obtain ⟨h10,H⟩ | ⟨h10,H⟩ := bC H
      ·refine nA h10 ?_
       refine tK ?_
       exact jA 0 H [7,6,4,3,2] [6,4,3,2]
      refine tA h10 ?_
      refine Tr.at ?_
      refine lA 2 ?_
      refine kF x0.Ls Link.row ?_
      refine uA 1 220 92 ?_
      exact jA (x0.Ls.length : Int) H [7,6,4,3,2] [6,4,3,2]
     have H := zG h9 H
     refine tB_ ?_
     refine tK ?_
     refine tB_ ?_
     refine Tr.at ?_
     refine lA 2 ?_
     refine kF x0.Ls Link.row ?_
     refine uA 1 220 92 ?_
     exact jA (x0.Ls.length : Int) H [7,6,4,3,2] [6,4,3,2]
    have H := zG h8 H
    refine tB_ ?_
    refine Tr.at ?_
    refine lA 2 ?_
    refine kF x0.Said Say.row ?_
    refine uA 1 220 92 ?_
    exact jA (x0.Said.length : Int) H [7,6,4,3,2] [6,4,3,2]
   have H := zG h7 H
   refine tB_ ?_
   refine Tr.at ?_
   refine lA 2 ?_
   refine kF x0.Bs zA.row ?_
   refine uA 1 220 92 ?_
   exact jA (x0.Bs.length : Int) H [7,6,4,3,2] [6,4,3,2]
  rintro y3 H
  have H : (qe n r1 x0 x1 y3) = some r := H
  unfold qe at H
  refine tS ?_
  refine rA 4 ?_
  obtain ⟨r4,er4,H⟩ := bs H
  refine vA [.rd,.rd,.rd] (qN n x1.At 0 (IntKind.wrap .i64 (y3 - 1)) r4 er4) ?_
  refine uA 1 549755813980 92 ?_
  obtain ⟨h2,H⟩ | ⟨h2,H⟩ := bC H
  ·refine nA h2 ?_
   refine tK ?_
   refine tS ?_
   refine gA 2 4398046511196 92 ?_
   refine tB ?_
   refine gA 2 567347999932508 92 ?_
   obtain ⟨h3,H⟩ | ⟨h3,H⟩ := bC H
   ·refine nA h3 ?_
    refine gA 2 0x4004000000005c 92 ?_
    obtain ⟨h4,H⟩ | ⟨h4,H⟩ := bC H
    ·refine nA h4 ?_
     refine tS ?_
     refine Tr.mid (ι := Bool) (fun v => ⟨78,0,[sB 68 v,sA 6 6 3 0,sA 4 4 3 0,sA 3 3 2 0],[(6,(Net.row r1)),(4,[cL 11 ([] : List zA) zA.row,cL 4 ([] : List Link) Link.row,cL 7 ([] : List Say) Say.row]),(3,(Event.row x1))]⟩) (fun v => QY n r1 x1 v = some r) ?_ ?_
     ·refine gA 2 0x100000040000000058 88 ?_
      refine sT ⟨78,0,[sB 68 (x1.Ki == 2),sI 42 x1.Ki,sA 6 6 3 0,sA 4 4 3 0,sA 3 3 2 0],[(6,(Net.row r1)),(4,[cL 11 ([] : List zA) zA.row,cL 4 ([] : List Link) Link.row,cL 7 ([] : List Say) Say.row]),(3,(Event.row x1))]⟩ ?_
      cases h6 : (x1.Ki == 2)
      ·have H := zF h6 H
       refine nB_ ?_
       refine eA 2 0x100000000000000058 88 ?_
       exact jA (x1.Ki == 3) H [68,6,4,3] [6,4,3]
      have H := zG h6 H
      refine tB_ ?_
      refine tK ?_
      exact jA true H [68,6,4,3] [6,4,3]
     rintro y5 H
     have H : (QY n r1 x1 y5) = some r := H
     unfold QY at H
     cases h5 : y5
     ·have H := zF h5 H
      refine nB_ ?_
      refine Tr.at ?_
      refine lA 5 ?_
      obtain ⟨r6,er6,H⟩ := bs H
      refine LAt.callL tOk [.lend,.rd,.rd] (f := 98) (av := #[.tmp 6,.tmp 44,.tmp 47]) (ats := #[68,3,4]) (d := (some 48)) (ty := 0) (g := none) kr kr kr [] (zH3 n r1 x1.At (x1.Ki == 5) r6 er6) kr (.inl rfl) ?_
      refine dA 80 80 ?_
      refine gA 3 48 16 ?_
      exact te (fJ [(true,(Net.row r6)),(false,[cB true])] H)
     have H := zG h5 H
     refine tB_ ?_
     refine Tr.at ?_
     refine lA 5 ?_
     obtain ⟨r7,er7,H⟩ := bs H
     refine LAt.callL tOk [.lend,.rd,.rd] (f := 97) (av := #[.tmp 6,.tmp 72,.tmp 75]) (ats := #[68,3,4]) (d := (some 76)) (ty := 0) (g := none) kr kr kr [] (zGb n r1 x1.At (x1.Ki == 2) r7 er7) kr (.inl rfl) ?_
     refine dA 80 80 ?_
     refine gA 3 48 16 ?_
     exact te (fJ [(true,(Net.row r7)),(false,[cB true])] H)
    refine tA h4 ?_
    obtain ⟨v8,ev8,H⟩ := bs H
    obtain ⟨r9,er9,H⟩ := bs H
    obtain ⟨v10,ev10,H⟩ := bs H
    refine Tr.draw mixed 13 kr ⟨78,0,[sA 6 6 3 0,sA 4 4 3 0],[(6,[cL 11 (r1.Bs.set (x1.At.toNat) r9) zA.row,cL 4 r1.Ls Link.row,cL 7 r1.Said Say.row]),(4,[cL 11 ([] : List zA) zA.row,cL 4 ([] : List Link) Link.row,cL 7 ([] : List Say) Say.row])]⟩ (fun cx => ?_) ?_
    ·refine mA zCr [(0,[]),(1,[12]),(2,[]),(3,[12]),(4,[]),(5,[10,12]),(6,[]),(7,[10,12])] 5 [⟨[10,12],3,62,63⟩,⟨[10,12],42,60,61⟩,⟨[12],3,58,59⟩,⟨[12],42,56,57⟩] fun cx => ?_
     refine iN zCr 8 zA.row ev8 fun cx => ?_
     refine mA zCr [(9,[])] 3 [⟨[10,12],3,62,63⟩,⟨[10,12],42,60,61⟩,⟨[12],3,58,59⟩,⟨[12],42,56,57⟩] fun cx => ?_
     refine mC zCr 10 ?_
     refine vA [.rd] (zKb n v8 r9 er9) ?_
     refine fA ?_
     refine oN zCr 11 zA.row ev10 fun cx => ?_
     refine mC zCr 12 ?_
     refine LAt.storeB tOk (t := 31) (ty := 0) (ad := (.tmp 67)) (x := (.tmp 66)) (g := none) (tI 31) true (zA.row r9) 6 0 (x1.At.toNat) 11 0 11 r1.Bs zA.row v10 r9 kr kr kr kr kr kr kr kr (zK ev10).2 kr kr kr kr ?_
     refine fA ?_
     exact mE zCr [6,4] [6,4]
    refine gA 3 48 16 ?_
    exact te (fJ [(true,[cL 11 (r1.Bs.set (x1.At.toNat) r9) zA.row,cL 4 r1.Ls Link.row,cL 7 r1.Said Say.row]),(false,[cB true])] H)
   refine tA h3 ?_
   refine Tr.at ?_
   refine lA 2 ?_
   obtain ⟨r11,er11,H⟩ := bs H
   refine LAt.callL tOk [.lend,.rd] (f := 96) (av := #[.tmp 6,.tmp 52]) (ats := #[68,3]) (d := (some 53)) (ty := 0) (g := none) kr kr kr [] (zHC n r1 x1.At r11 er11) kr (.inl rfl) ?_
   refine dA 80 80 ?_
   refine gA 3 48 16 ?_
   exact te (fJ [(true,(Net.row r11)),(false,[cB true])] H)
  refine tA h2 ?_
  refine gA 3 48 16 ?_
  exact te (fJ [(true,(Net.row r1)),(false,[cB false])] H)
 refine tA h1 ?_
 refine gA 3 48 16 ?_
 exact te (fJ [(true,(Net.row r1)),(false,[cB false])] H)
def zA7 (n : Nat) (x0 : (List Int)) (x1 : Int) : Option (Int) :=
  (bif (decide (x1 < (x0.length : Int))) then ((idx x0 x1).bind fun v2 => (some (IntKind.wrap .i64 v2))) else (bif (decide ((256 : Int) ≠ 0)) then (some (Int.tmod (IntKind.wrap .i64 ((IntKind.wrap .i64 (x1 * 31)) + (IntKind.wrap .i64 ((x0.length : Int) * 7)))) 256)) else none))
theorem zLf (n : Nat) (x0 : (List Int)) (x1 : Int) (r : Int) (H : zA7 n x0 x1 = some r) : zH Try.prog 14 [.val false [.sl false 1 (CV.frzEs (x0.map zd))],.val false [.lit (.int .i64 x1)]] [.val false [.lit (.int .i64 r)]] [] := by
 refine cW Try.func14 (fun g d => sl [g 0,sl [g 1] (cn 8 (sl [g 2] .ret) .skip),g 3] .ret) [.tmp 4] fun cx => ?_
 unfold zA7 at H
 refine gA 1 3 0 ?_
 refine tS ?_
 refine rA 2 ?_
 refine kF x0 zd ?_
 refine uA 1 259 0 ?_
 obtain ⟨h1,H⟩ | ⟨h1,H⟩ := bC H
 ·refine nA h1 ?_
  refine tK ?_
  refine rA 3 ?_
  refine kF x0 zd ?_
  refine lA 2 ?_
  obtain ⟨hg1,H⟩ := gs H
  refine LAt.binC tOk (op := .rem) (t := 3) (ty := 3) (ty' := 3) (x := (.tmp 19)) (y := (.const (.int .i64 256))) (d := 20) (g := none) (.int .i64 (IntKind.wrap .i64 ((IntKind.wrap .i64 (x1 * 31)) + (IntKind.wrap .i64 ((x0.length : Int) * 7))))) (.int .i64 256) (.int .i64 (Int.tmod (IntKind.wrap .i64 ((IntKind.wrap .i64 (x1 * 31)) + (IntKind.wrap .i64 ((x0.length : Int) * 7)))) 256)) _ kr kr kr kr kr (φ := (IntKind.i64 = IntKind.i64 ∧ (256 : Int) ≠ 0)) kr (⟨rfl,of_decide_eq_true hg1⟩) rfl ?_
  refine uA 1 16 0 ?_
  exact te (fJ [(false,[cI (Int.tmod (IntKind.wrap .i64 ((IntKind.wrap .i64 (x1 * 31)) + (IntKind.wrap .i64 ((x0.length : Int) * 7)))) 256)])] H)
 refine tA h1 ?_
 refine rA 2 ?_
 obtain ⟨v2,ev2,H⟩ := bs H
 refine iA zd ev2 ?_
 refine uA 3 16 0 ?_
 exact te (fJ [(false,[cI (IntKind.wrap .i64 v2)])] H)
def Qn (n : Nat) (r6 : Net × Bool) (v9 : Link) : Option (Bool) :=
  ((idx r6.1.Bs v9.A).bind fun v11 => ((idx v11.Ps v9.P).bind fun v12 => (bif (!v12.Has) then ((idx r6.1.Bs v9.B).bind fun v13 => ((idx v13.Ps v9.Q).bind fun v14 => (some (!v14.Has)))) else (some false))))
def qy (n : Nat) : Nat → Net × (List Event) → Int → Net × Bool → Link → Int → Option ((Unit) ⊕ (Bool))
  | 0,_,_,_,_,_ => none
  | mo15 + 1,r2,r3,r5,v9,y10 => (bif (decide (y10 < (r5.1.Said.length : Int))) then ((idx r5.1.Said y10).bind fun v16 => (bif (v16.Link == (Int.tmod r3 (r2.1.Ls.length : Int))) then ((ZT n r5.1 (⟨2,y10⟩ : Event)).bind fun r17 => (bif (!r17.2) then (some (Sum.inr false)) else ((idx r17.1.Bs v9.A).bind fun v18 => ((idx v18.Ps v9.P).bind fun v19 => (bif v19.Has then (some (Sum.inr false)) else ((idx r17.1.Bs v9.B).bind fun v20 => ((idx v20.Ps v9.Q).bind fun v21 => (bif v21.Has then (some (Sum.inr false)) else (qy n mo15 r2 r3 r5 v9 (IntKind.wrap .i64 (y10 + 1))))))))))) else (qy n mo15 r2 r3 r5 v9 (IntKind.wrap .i64 (y10 + 1))))) else (some (Sum.inl ())))
def Ys (n : Nat) (x0 : (List Int)) : Option (Bool) :=
  ((zDR n x0).bind fun r1 => (bif r1 then (some true) else ((JX n x0).bind fun r2 => (bif ((r2.1.Ls.length : Int) == 0) then ((ZT n r2.1 (⟨4,0⟩ : Event)).bind fun r22 => (some (!r22.2))) else ((zA7 n x0 2).bind fun r3 => (bif (decide (((r2.1.Ls.length : Int) : Int) ≠ 0)) then ((ZT n r2.1 (⟨4,(Int.tmod r3 (r2.1.Ls.length : Int))⟩ : Event)).bind fun r5 => ((ZT n r5.1 (⟨5,(Int.tmod r3 (r2.1.Ls.length : Int))⟩ : Event)).bind fun r6 => (bif (!r5.2) then (some false) else (bif (!r6.2) then (some false) else ((qd n r5.1 (Int.tmod r3 (r2.1.Ls.length : Int))).bind fun r7 => (bif r7 then (some false) else ((qd n r6.1 (Int.tmod r3 (r2.1.Ls.length : Int))).bind fun r8 => (bif (!r8) then (some false) else ((idx r2.1.Ls (Int.tmod r3 (r2.1.Ls.length : Int))).bind fun v9 => ((qy n n r2 r3 r5 v9 0).bind fun o => match o with | .inl _ => (Qn n r6 v9) | .inr r => some r)))))))))) else none))))))
def zMf : Tab := ⟨30,[0,1,2,4,12,4,36,84,132,260,4,1028,2564,4100,8196,16388,32772,65536,196608,65536,589824,1376256,2162688,4259840,65536,16842752,42008576,67174400,134283264,268500992],[0,1,2,4,12,4,36,84,132,260,4,1028,2564,4100,8196,16388,32768,65536,196608,65536,589824,1376256,2162688,4259840,65536,16842752,42008576,67174400,134283264,268500992],[0,1,3,7,15,7,39,127,255,511,7,1031,4095,8191,16383,32767,65535,131071,262143,131071,655359,2097151,4194303,8388607,131071,16908287,67108863,134217727,268435455,536870911]⟩
theorem ZA : zY (rg Try.f5 18) zMf = true := kr
def zMg : Tab := ⟨29,[0,1,0,4,10,16,32,0,128,320,512,1024,2048,4096,8192,24576,8192,73728,172032,270336,532480,8192,2105344,5251072,8396800,16785408,33562624,67117056,268435455],[0,1,0,4,10,16,32,0,128,320,512,1024,2048,4096,8192,24576,8192,73728,172032,270336,532480,8192,2105344,5251072,8396800,16785408,33562624,67117056,134217728],[0,1,0,4,15,31,63,0,128,511,1023,2047,4095,8191,16383,32767,16383,81919,262143,524287,1048575,16383,2113535,8388607,16777215,33554431,67108863,134217727,268435455]⟩
theorem Zp : zY (rg Try.f5 20) zMg = true := kr
theorem zEb (n : Nat) (r2 : Net × (List Event)) (x0 : (List Int)) (r3 : Int) (er3 : (zA7 n x0 2) = some r3) (hg4 : (decide (((r2.1.Ls.length : Int) : Int) ≠ 0)) = true) (cx : Cx) : AT Try.prog cx (rg Try.f5 7) [] 7 [] ⟨157,0,[sB 26 ((r2.1.Ls.length : Int) == 0),sA 3 3 3 0,sC 0 (cF 1 x0 zd)],[(3,(Net.row r2.1))]⟩ (fun s => s = ⟨157,0,[sI 7 (Int.tmod r3 (r2.1.Ls.length : Int)),sA 3 3 3 0],[(3,(Net.row r2.1))]⟩) := by
 refine aA [(0,[]),(2,[]),(3,[5])] 4 [⟨[5],65,37,38⟩] fun cx => ?_
 refine aL tOk 4 65 3 78 38 39 none ⟨(.box 3),[(0,0)],1,true,4,(r2.1.Ls.map Link.row)⟩ (r2.1.Ls).length _ kr kr kr kr kr kr kr (zHH _ _) rfl (fun cx => ?_)
 refine bA 1 ?_
 refine vA [.rd,.rd] (zLf n x0 2 r3 er3) ?_
 refine fA ?_
 refine bA 5 ?_
 refine LAt.binC tOk (op := .rem) (t := 3) (ty := 3) (ty' := 3) (x := (.tmp 36)) (y := (.tmp 39)) (d := 40) (g := none) (.int .i64 r3) (.int .i64 (r2.1.Ls.length : Int)) (.int .i64 (Int.tmod r3 (r2.1.Ls.length : Int))) _ kr kr kr kr kr (φ := (IntKind.i64 = IntKind.i64 ∧ ((r2.1.Ls.length : Int) : Int) ≠ 0)) kr (⟨rfl,of_decide_eq_true hg4⟩) rfl ?_
 refine fA ?_
 refine aA [(6,[])] 0 [⟨[5],65,37,38⟩] fun cx => ?_
 exact eE [7,3] [3]
theorem zEc (n : Nat) (v9 : Link) (r6 : Net × Bool) (v11 : zA) (v12 : Pt) (ev12 : (idx v11.Ps v9.P) = some v12) (h7 : (!v12.Has) = false) (ev11 : (idx r6.1.Bs v9.A) = some v11) (cx : Cx) : AT Try.prog cx (rg Try.f5 20) [] 29 [] ⟨157,0,[sA 12 12 4 0,sA 10 10 3 0],[(12,(Link.row v9)),(10,(Net.row r6.1))]⟩ (fun s => s = ⟨157,0,[sB 2 false],[]⟩) := by
 refine mA Zp [(0,[]),(1,[]),(2,[]),(3,[])] 25 [⟨[],3,131,132⟩,⟨[],42,129,130⟩] fun cx => ?_
 refine oN Zp 4 zA.row ev11 fun cx => ?_
 refine mA Zp [(5,[]),(7,[]),(8,[])] 21 [⟨[],3,136,137⟩,⟨[],3,131,132⟩,⟨[],42,129,130⟩] fun cx => ?_
 refine mC Zp 6 ?_
 refine dE (tI 24) (.box 10) [(0,0),(0,(v9.A.toNat))] 11 2 [.sl true 3 [(Net.row r6.1)]] (zA.row v11) (zO rfl (zK ev11).2) ?_
 refine fA ?_
 refine mC Zp 9 ?_
 refine LAt.indexD tOk (t := 24) (ty := 0) (et := 44) (x := (.tmp 135)) (y := (.tmp 137)) (d := 138) (g := none) (tI 44) ⟨(.box 10),[(0,0),(0,(v9.A.toNat))],2,true,8,(v11.Ps.map Pt.row)⟩ .i64 v9.P (v9.P.toNat) (Pt.row v12) kr kr kr kr kr kr kr (zAl (row := [.sl true 3 [(Net.row r6.1)]]) (e := zA.row v11) kr kr (zO rfl (zK ev11).2) rfl rfl) rfl kr (Q4 ev12) rfl ?_
 refine fA ?_
 refine mA Zp [(10,[])] 18 [⟨[],3,136,137⟩,⟨[],3,131,132⟩,⟨[],42,129,130⟩] fun cx => ?_
 refine mC Zp 11 ?_
 refine dE (tI 4) (.box 10) [(0,0),(0,(v9.A.toNat)),(2,(v9.P.toNat))] 8 2 [.sl true 3 [(Net.row r6.1)]] (Pt.row v12) (zBJ rfl (zK ev11).2 rfl (zK ev12).2) ?_
 refine fA ?_
 refine mA Zp [(12,[]),(13,[])] 15 [⟨[],3,136,137⟩,⟨[],3,131,132⟩,⟨[],42,129,130⟩] fun cx => ?_
 refine sA_ 0x431e00000000000000000000000000001400 5120 ⟨157,0,[sB 142 (!v12.Has),sI 137 v9.P,sA 136 12 4 1,sI 132 v9.A,sA 131 12 4 0,sR 130 10 3 0 1 false,sA 129 10 3 0,sA 12 12 4 0,sA 10 10 3 0],[(12,(Link.row v9)),(10,(Net.row r6.1))]⟩ ?_
 rw [h7]
 refine mA Zp [(14,[]),(15,[]),(16,[]),(17,[]),(18,[]),(19,[]),(20,[]),(21,[]),(22,[]),(23,[]),(24,[]),(25,[]),(26,[]),(27,[]),(28,[])] 0 [⟨[],3,136,137⟩,⟨[],3,131,132⟩,⟨[],42,129,130⟩] fun cx => ?_
 exact mE Zp [2] []
theorem zEd (n : Nat) (v9 : Link) (r6 : Net × Bool) (v11 : zA) (v12 : Pt) (v13 : zA) (v14 : Pt) (ev12 : (idx v11.Ps v9.P) = some v12) (ev13 : (idx r6.1.Bs v9.B) = some v13) (ev14 : (idx v13.Ps v9.Q) = some v14) (h7 : (!v12.Has) = true) (ev11 : (idx r6.1.Bs v9.A) = some v11) (cx : Cx) : AT Try.prog cx (rg Try.f5 20) [] 29 [] ⟨157,0,[sA 12 12 4 0,sA 10 10 3 0],[(12,(Link.row v9)),(10,(Net.row r6.1))]⟩ (fun s => s = ⟨157,0,[sB 2 (!v14.Has)],[]⟩) := by
 refine mA Zp [(0,[]),(1,[]),(2,[]),(3,[])] 25 [⟨[],3,131,132⟩,⟨[],42,129,130⟩] fun cx => ?_
 refine oN Zp 4 zA.row ev11 fun cx => ?_
 refine mA Zp [(5,[]),(7,[]),(8,[])] 21 [⟨[],3,136,137⟩,⟨[],3,131,132⟩,⟨[],42,129,130⟩] fun cx => ?_
 refine mC Zp 6 ?_
 refine dE (tI 24) (.box 10) [(0,0),(0,(v9.A.toNat))] 11 2 [.sl true 3 [(Net.row r6.1)]] (zA.row v11) (zO rfl (zK ev11).2) ?_
 refine fA ?_
 refine mC Zp 9 ?_
 refine LAt.indexD tOk (t := 24) (ty := 0) (et := 44) (x := (.tmp 135)) (y := (.tmp 137)) (d := 138) (g := none) (tI 44) ⟨(.box 10),[(0,0),(0,(v9.A.toNat))],2,true,8,(v11.Ps.map Pt.row)⟩ .i64 v9.P (v9.P.toNat) (Pt.row v12) kr kr kr kr kr kr kr (zAl (row := [.sl true 3 [(Net.row r6.1)]]) (e := zA.row v11) kr kr (zO rfl (zK ev11).2) rfl rfl) rfl kr (Q4 ev12) rfl ?_
 refine fA ?_
 refine mA Zp [(10,[])] 18 [⟨[],3,136,137⟩,⟨[],3,131,132⟩,⟨[],42,129,130⟩] fun cx => ?_
 refine mC Zp 11 ?_
 refine dE (tI 4) (.box 10) [(0,0),(0,(v9.A.toNat)),(2,(v9.P.toNat))] 8 2 [.sl true 3 [(Net.row r6.1)]] (Pt.row v12) (zBJ rfl (zK ev11).2 rfl (zK ev12).2) ?_
 refine fA ?_
 refine mA Zp [(12,[]),(13,[])] 15 [⟨[],3,136,137⟩,⟨[],3,131,132⟩,⟨[],42,129,130⟩] fun cx => ?_
 refine sA_ 0x431e00000000000000000000000000001400 5120 ⟨157,0,[sB 142 (!v12.Has),sI 137 v9.P,sA 136 12 4 1,sI 132 v9.A,sA 131 12 4 0,sR 130 10 3 0 1 false,sA 129 10 3 0,sA 12 12 4 0,sA 10 10 3 0],[(12,(Link.row v9)),(10,(Net.row r6.1))]⟩ ?_
 rw [h7]
 refine mA Zp [(14,[]),(15,[]),(16,[]),(17,[])] 11 [⟨[],3,145,146⟩,⟨[],42,143,144⟩,⟨[],3,136,137⟩,⟨[],3,131,132⟩,⟨[],42,129,130⟩] fun cx => ?_
 refine oN Zp 18 zA.row ev13 fun cx => ?_
 refine mA Zp [(19,[]),(21,[]),(22,[])] 7 [⟨[],3,150,151⟩,⟨[],3,145,146⟩,⟨[],42,143,144⟩,⟨[],3,136,137⟩,⟨[],3,131,132⟩,⟨[],42,129,130⟩] fun cx => ?_
 refine mC Zp 20 ?_
 refine dE (tI 24) (.box 10) [(0,0),(0,(v9.B.toNat))] 11 2 [.sl true 3 [(Net.row r6.1)]] (zA.row v13) (zO rfl (zK ev13).2) ?_
 refine fA ?_
 refine mC Zp 23 ?_
 refine LAt.indexD tOk (t := 24) (ty := 0) (et := 44) (x := (.tmp 149)) (y := (.tmp 151)) (d := 152) (g := (some (13,true))) (tI 44) ⟨(.box 10),[(0,0),(0,(v9.B.toNat))],2,true,8,(v13.Ps.map Pt.row)⟩ .i64 v9.Q (v9.Q.toNat) (Pt.row v14) kr kr kr kr kr kr kr (zAl (row := [.sl true 3 [(Net.row r6.1)]]) (e := zA.row v13) kr kr (zO rfl (zK ev13).2) rfl rfl) rfl kr (Q4 ev14) rfl ?_
 refine fA ?_
 refine mA Zp [(24,[])] 4 [⟨[],3,150,151⟩,⟨[],3,145,146⟩,⟨[],42,143,144⟩,⟨[],3,136,137⟩,⟨[],3,131,132⟩,⟨[],42,129,130⟩] fun cx => ?_
 refine mC Zp 25 ?_
 refine dE (tI 4) (.box 10) [(0,0),(0,(v9.B.toNat)),(2,(v9.Q.toNat))] 8 2 [.sl true 3 [(Net.row r6.1)]] (Pt.row v14) (zBJ rfl (zK ev13).2 rfl (zK ev14).2) ?_
 refine fA ?_
 refine mA Zp [(26,[]),(27,[]),(28,[])] 0 [⟨[],3,150,151⟩,⟨[],3,145,146⟩,⟨[],42,143,144⟩,⟨[],3,136,137⟩,⟨[],3,131,132⟩,⟨[],42,129,130⟩] fun cx => ?_
 exact mE Zp [2] []
theorem zEe (n : Nat) (r17 : Net × Bool) (y10 : Int) (r3 : Int) (r2 : Net × (List Event)) (v9 : Link) (r6 : Net × Bool) (r5 : Net × Bool) (v18 : zA) (v19 : Pt) (v20 : zA) (v21 : Pt) (h10 : (!r17.2) = false) (ev18 : (idx r17.1.Bs v9.A) = some v18) (ev19 : (idx v18.Ps v9.P) = some v19) (ev20 : (idx r17.1.Bs v9.B) = some v20) (ev21 : (idx v20.Ps v9.Q) = some v21) (h11 : v19.Has = false) (cx : Cx) : AT Try.prog cx (rg Try.f5 18) [] 30 [] ⟨157,0,[sB 15 r17.2,sA 14 14 3 0,sI 13 y10,sA 12 12 4 0,sA 10 10 3 0,sA 8 8 3 0,sI 7 (Int.tmod r3 (r2.1.Ls.length : Int))],[(14,(Net.row r17.1)),(12,(Link.row v9)),(10,(Net.row r6.1)),(8,(Net.row r5.1))]⟩ (fun s => s = ⟨157,0,[sB 128 v21.Has,sI 13 y10,sA 12 12 4 0,sA 10 10 3 0,sA 8 8 3 0,sI 7 (Int.tmod r3 (r2.1.Ls.length : Int))],[(12,(Link.row v9)),(10,(Net.row r6.1)),(8,(Net.row r5.1))]⟩) := by
 refine mA ZA [(0,[]),(1,[]),(2,[])] 27 [] fun cx => ?_
 refine sA_ 0x20000000000000000000007580 21760 ⟨157,0,[sB 101 (!r17.2),sA 14 14 3 0,sI 13 y10,sA 12 12 4 0,sA 10 10 3 0,sA 8 8 3 0,sI 7 (Int.tmod r3 (r2.1.Ls.length : Int))],[(14,(Net.row r17.1)),(12,(Link.row v9)),(10,(Net.row r6.1)),(8,(Net.row r5.1))]⟩ ?_
 rw [h10]
 refine mA ZA [(3,[]),(4,[]),(5,[]),(6,[])] 23 [⟨[],3,104,105⟩,⟨[],42,102,103⟩] fun cx => ?_
 refine oN ZA 7 zA.row ev18 fun cx => ?_
 refine mA ZA [(8,[]),(10,[]),(11,[])] 19 [⟨[],3,109,110⟩,⟨[],3,104,105⟩,⟨[],42,102,103⟩] fun cx => ?_
 refine mC ZA 9 ?_
 refine dE (tI 24) (.box 14) [(0,0),(0,(v9.A.toNat))] 11 2 [.sl true 3 [(Net.row r17.1)]] (zA.row v18) (zO rfl (zK ev18).2) ?_
 refine fA ?_
 refine mC ZA 12 ?_
 refine LAt.indexD tOk (t := 24) (ty := 0) (et := 44) (x := (.tmp 108)) (y := (.tmp 110)) (d := 111) (g := (some (2,false))) (tI 44) ⟨(.box 14),[(0,0),(0,(v9.A.toNat))],2,true,8,(v18.Ps.map Pt.row)⟩ .i64 v9.P (v9.P.toNat) (Pt.row v19) kr kr kr kr kr kr kr (zAl (row := [.sl true 3 [(Net.row r17.1)]]) (e := zA.row v18) kr kr (zO rfl (zK ev18).2) rfl rfl) rfl kr (Q4 ev19) rfl ?_
 refine fA ?_
 refine mA ZA [(13,[])] 16 [⟨[],3,109,110⟩,⟨[],3,104,105⟩,⟨[],42,102,103⟩] fun cx => ?_
 refine mC ZA 14 ?_
 refine dE (tI 4) (.box 14) [(0,0),(0,(v9.A.toNat)),(2,(v9.P.toNat))] 8 2 [.sl true 3 [(Net.row r17.1)]] (Pt.row v19) (zBJ rfl (zK ev18).2 rfl (zK ev19).2) ?_
 refine fA ?_
 refine mA ZA [(15,[]),(16,[])] 13 [⟨[],3,109,110⟩,⟨[],3,104,105⟩,⟨[],42,102,103⟩] fun cx => ?_
 refine sA_ 0x863c0000000000000000000007580 21760 ⟨157,0,[sB 115 v19.Has,sI 110 v9.P,sA 109 12 4 1,sI 105 v9.A,sA 104 12 4 0,sR 103 14 3 0 1 false,sA 102 14 3 0,sA 14 14 3 0,sI 13 y10,sA 12 12 4 0,sA 10 10 3 0,sA 8 8 3 0,sI 7 (Int.tmod r3 (r2.1.Ls.length : Int))],[(14,(Net.row r17.1)),(12,(Link.row v9)),(10,(Net.row r6.1)),(8,(Net.row r5.1))]⟩ ?_
 rw [h11]
 refine mA ZA [(17,[]),(18,[]),(19,[]),(20,[])] 9 [⟨[],3,118,119⟩,⟨[],42,116,117⟩,⟨[],3,109,110⟩,⟨[],3,104,105⟩,⟨[],42,102,103⟩] fun cx => ?_
 refine oN ZA 21 zA.row ev20 fun cx => ?_
 refine mA ZA [(22,[]),(24,[]),(25,[])] 5 [⟨[],3,123,124⟩,⟨[],3,118,119⟩,⟨[],42,116,117⟩,⟨[],3,109,110⟩,⟨[],3,104,105⟩,⟨[],42,102,103⟩] fun cx => ?_
 refine mC ZA 23 ?_
 refine dE (tI 24) (.box 14) [(0,0),(0,(v9.B.toNat))] 11 2 [.sl true 3 [(Net.row r17.1)]] (zA.row v20) (zO rfl (zK ev20).2) ?_
 refine fA ?_
 refine mC ZA 26 ?_
 refine LAt.indexD tOk (t := 24) (ty := 0) (et := 44) (x := (.tmp 122)) (y := (.tmp 124)) (d := 125) (g := (some (16,false))) (tI 44) ⟨(.box 14),[(0,0),(0,(v9.B.toNat))],2,true,8,(v20.Ps.map Pt.row)⟩ .i64 v9.Q (v9.Q.toNat) (Pt.row v21) kr kr kr kr kr kr kr (zAl (row := [.sl true 3 [(Net.row r17.1)]]) (e := zA.row v20) kr kr (zO rfl (zK ev20).2) rfl rfl) rfl kr (Q4 ev21) rfl ?_
 refine fA ?_
 refine mA ZA [(27,[])] 2 [⟨[],3,123,124⟩,⟨[],3,118,119⟩,⟨[],42,116,117⟩,⟨[],3,109,110⟩,⟨[],3,104,105⟩,⟨[],42,102,103⟩] fun cx => ?_
 refine mC ZA 28 ?_
 refine dE (tI 4) (.box 14) [(0,0),(0,(v9.B.toNat)),(2,(v9.Q.toNat))] 8 2 [.sl true 3 [(Net.row r17.1)]] (Pt.row v21) (zBJ rfl (zK ev20).2 rfl (zK ev21).2) ?_
 refine fA ?_
 refine mA ZA [(29,[])] 0 [⟨[],3,123,124⟩,⟨[],3,118,119⟩,⟨[],42,116,117⟩,⟨[],3,109,110⟩,⟨[],3,104,105⟩,⟨[],42,102,103⟩] fun cx => ?_
 exact mE ZA [128,13,12,10,8,7] [12,10,8]
theorem zEf (n : Nat) (r17 : Net × Bool) (y10 : Int) (r3 : Int) (r2 : Net × (List Event)) (v9 : Link) (r6 : Net × Bool) (r5 : Net × Bool) (v18 : zA) (v19 : Pt) (h10 : (!r17.2) = false) (ev18 : (idx r17.1.Bs v9.A) = some v18) (ev19 : (idx v18.Ps v9.P) = some v19) (h11 : v19.Has = true) (cx : Cx) : AT Try.prog cx (rg Try.f5 18) [] 30 [] ⟨157,0,[sB 15 r17.2,sA 14 14 3 0,sI 13 y10,sA 12 12 4 0,sA 10 10 3 0,sA 8 8 3 0,sI 7 (Int.tmod r3 (r2.1.Ls.length : Int))],[(14,(Net.row r17.1)),(12,(Link.row v9)),(10,(Net.row r6.1)),(8,(Net.row r5.1))]⟩ (fun s => s = ⟨157,0,[sB 128 true,sI 13 y10,sA 12 12 4 0,sA 10 10 3 0,sA 8 8 3 0,sI 7 (Int.tmod r3 (r2.1.Ls.length : Int))],[(12,(Link.row v9)),(10,(Net.row r6.1)),(8,(Net.row r5.1))]⟩) := by
 refine mA ZA [(0,[]),(1,[]),(2,[])] 27 [] fun cx => ?_
 refine sA_ 0x20000000000000000000007580 21760 ⟨157,0,[sB 101 (!r17.2),sA 14 14 3 0,sI 13 y10,sA 12 12 4 0,sA 10 10 3 0,sA 8 8 3 0,sI 7 (Int.tmod r3 (r2.1.Ls.length : Int))],[(14,(Net.row r17.1)),(12,(Link.row v9)),(10,(Net.row r6.1)),(8,(Net.row r5.1))]⟩ ?_
 rw [h10]
 refine mA ZA [(3,[]),(4,[]),(5,[]),(6,[])] 23 [⟨[],3,104,105⟩,⟨[],42,102,103⟩] fun cx => ?_
 refine oN ZA 7 zA.row ev18 fun cx => ?_
 refine mA ZA [(8,[]),(10,[]),(11,[])] 19 [⟨[],3,109,110⟩,⟨[],3,104,105⟩,⟨[],42,102,103⟩] fun cx => ?_
 refine mC ZA 9 ?_
 refine dE (tI 24) (.box 14) [(0,0),(0,(v9.A.toNat))] 11 2 [.sl true 3 [(Net.row r17.1)]] (zA.row v18) (zO rfl (zK ev18).2) ?_
 refine fA ?_
 refine mC ZA 12 ?_
 refine LAt.indexD tOk (t := 24) (ty := 0) (et := 44) (x := (.tmp 108)) (y := (.tmp 110)) (d := 111) (g := (some (2,false))) (tI 44) ⟨(.box 14),[(0,0),(0,(v9.A.toNat))],2,true,8,(v18.Ps.map Pt.row)⟩ .i64 v9.P (v9.P.toNat) (Pt.row v19) kr kr kr kr kr kr kr (zAl (row := [.sl true 3 [(Net.row r17.1)]]) (e := zA.row v18) kr kr (zO rfl (zK ev18).2) rfl rfl) rfl kr (Q4 ev19) rfl ?_
 refine fA ?_
 refine mA ZA [(13,[])] 16 [⟨[],3,109,110⟩,⟨[],3,104,105⟩,⟨[],42,102,103⟩] fun cx => ?_
 refine mC ZA 14 ?_
 refine dE (tI 4) (.box 14) [(0,0),(0,(v9.A.toNat)),(2,(v9.P.toNat))] 8 2 [.sl true 3 [(Net.row r17.1)]] (Pt.row v19) (zBJ rfl (zK ev18).2 rfl (zK ev19).2) ?_
 refine fA ?_
 refine mA ZA [(15,[]),(16,[])] 13 [⟨[],3,109,110⟩,⟨[],3,104,105⟩,⟨[],42,102,103⟩] fun cx => ?_
 refine sA_ 0x863c0000000000000000000007580 21760 ⟨157,0,[sB 115 v19.Has,sI 110 v9.P,sA 109 12 4 1,sI 105 v9.A,sA 104 12 4 0,sR 103 14 3 0 1 false,sA 102 14 3 0,sA 14 14 3 0,sI 13 y10,sA 12 12 4 0,sA 10 10 3 0,sA 8 8 3 0,sI 7 (Int.tmod r3 (r2.1.Ls.length : Int))],[(14,(Net.row r17.1)),(12,(Link.row v9)),(10,(Net.row r6.1)),(8,(Net.row r5.1))]⟩ ?_
 rw [h11]
 refine mA ZA [(17,[]),(18,[]),(19,[]),(20,[]),(21,[]),(22,[]),(23,[]),(24,[]),(25,[]),(26,[]),(27,[]),(28,[]),(29,[])] 0 [⟨[],3,109,110⟩,⟨[],3,104,105⟩,⟨[],42,102,103⟩] fun cx => ?_
 exact mE ZA [128,13,12,10,8,7] [12,10,8]
theorem zF3 (n : Nat) (x0 : (List Int)) (r : Bool) (H : Ys n x0 = some r) : zH Try.prog 5 [.val false [.sl false 1 (CV.frzEs (x0.map zd))]] [.val false [.lit (.bool r)]] [] := by
 refine cW Try.func5 (fun g d => sl [g 0,sl [g 1] (cn 17 (sl [g 2] .ret) .skip),g 3,sl [g 4] (cn 26 (sl [g 5,g 6] .ret) .skip),d 7,g 8,g 9,sl [g 10] (cn 71 (sl [g 11] .ret) .skip),g 12,sl [g 13] (.block 0 (.loop (sl [sl [g 14] (cn 81 .skip (.exit 0)),.block 1 (sl [g 16] (cn 91 (sl [g 17,d 18] (cn 128 (sl [g 19] .ret) .skip)) .skip))] (g 15)))),d 20] .ret) [.tmp 2] fun cx => ?_
 unfold Ys at H
 refine gA 1 1 0 ?_
 refine tS ?_
 refine rA 1 ?_
 obtain ⟨r1,er1,H⟩ := bs H
 refine vA [.rd] (zK3 n x0 r1 er1) ?_
 refine dA 131073 0 ?_
 cases h1 : r1
 ·have H := zF h1 H
  refine nB_ ?_
  refine tK ?_
  refine rA 1 ?_
  obtain ⟨r2,er2,H⟩ := bs H
  refine vA [.rd] (zIv n x0 r2 er2) ?_
  refine LAt.movT tOk (ty := 70) (t := 20) (d := 18) (g := none) [(true,(Net.row r2.1)),(false,[cL 2 r2.2 Event.row])] _ kr (.inl rfl) kr kr kr kr rfl ?_
  refine lA 4 ?_
  refine LAt.moveU (T := lk tab) (ty := 69) (x := (.tmp 22)) (d := 4) (g := none) false [cL 2 r2.2 Event.row] kr kr kr kr kr ?_
  refine dA 9 8 ?_
  refine tS ?_
  refine rA 2 ?_
  refine kO r2.1.Ls Link.row ?_
  refine uA 1 67108873 8 ?_
  obtain ⟨h2,H⟩ | ⟨h2,H⟩ := bC H
  ·refine nA h2 ?_
   refine tK ?_
   obtain ⟨r3,er3,H⟩ := bs H
   obtain ⟨hg4,H⟩ := gs H
   refine sT ⟨157,0,[sB 26 ((r2.1.Ls.length : Int) == 0),sA 3 3 3 0,sC 0 (cF 1 x0 zd)],[(3,(Net.row r2.1))]⟩ ?_
   refine Tr.draws mixed 7 kr ⟨157,0,[sI 7 (Int.tmod r3 (r2.1.Ls.length : Int)),sA 3 3 3 0],[(3,(Net.row r2.1))]⟩ (zEb n r2 x0 r3 er3 hg4) ?_
   refine rA 3 ?_
   obtain ⟨r5,er5,H⟩ := bs H
   refine vB [.rd,.rd] [.box 3] (zDM n r2.1 (⟨4,(Int.tmod r3 (r2.1.Ls.length : Int))⟩ : Event) r5 er5) (.inr (zZ (Net.row_mine _) (zZ (zI zM zx) z6))) ?_
   refine LAt.movT tOk (ty := 72) (t := 45) (d := 41) (g := none) [(true,(Net.row r5.1)),(false,[cB r5.2])] _ kr (.inl rfl) kr kr kr kr rfl ?_
   refine uA 5 904 264 ?_
   refine rA 3 ?_
   obtain ⟨r6,er6,H⟩ := bs H
   refine vB [.rd,.rd] [.box 8] (zDM n r5.1 (⟨5,(Int.tmod r3 (r2.1.Ls.length : Int))⟩ : Event) r6 er6) (.inr (zZ (Net.row_mine _) (zZ (zI zM zx) z6))) ?_
   refine LAt.movT tOk (ty := 72) (t := 52) (d := 48) (g := none) [(true,(Net.row r6.1)),(false,[cB r6.2])] _ kr (.inl rfl) kr kr kr kr rfl ?_
   refine uA 5 3976 1288 ?_
   refine tS ?_
   refine rA 3 ?_
   refine sL 0x200000000000d88 1288 ⟨157,0,[sB 57 (!r5.2),sB 11 r6.2,sA 10 10 3 0,sA 8 8 3 0,sI 7 (Int.tmod r3 (r2.1.Ls.length : Int)),sA 3 3 3 0],[(10,(Net.row r6.1)),(8,(Net.row r5.1)),(3,(Net.row r2.1))]⟩ ?_
   cases h3 : (!r5.2)
   ·have H := zF h3 H
    refine lA 4 ?_
    refine sL 0x2000000000000588 1288 ⟨157,0,[sB 61 (!r6.2),sA 10 10 3 0,sA 8 8 3 0,sI 7 (Int.tmod r3 (r2.1.Ls.length : Int)),sA 3 3 3 0],[(10,(Net.row r6.1)),(8,(Net.row r5.1)),(3,(Net.row r2.1))]⟩ ?_
    cases h4 : (!r6.2)
    ·have H := zF h4 H
     refine lA 2 ?_
     obtain ⟨r7,er7,H⟩ := bs H
     refine vB [.rd,.rd] [.box 8] (zAg n r5.1 (Int.tmod r3 (r2.1.Ls.length : Int)) r7 er7) (.inr (zZ (zI zM zx) z6)) ?_
     refine lA 2 ?_
     refine sL 0x40000000000000588 1288 ⟨157,0,[sB 66 r7,sA 10 10 3 0,sA 8 8 3 0,sI 7 (Int.tmod r3 (r2.1.Ls.length : Int)),sA 3 3 3 0],[(10,(Net.row r6.1)),(8,(Net.row r5.1)),(3,(Net.row r2.1))]⟩ ?_
     cases h5 : r7
     ·have H := zF h5 H
      refine lA 2 ?_
      obtain ⟨r8,er8,H⟩ := bs H
      refine vB [.rd,.rd] [.box 10] (zAg n r6.1 (Int.tmod r3 (r2.1.Ls.length : Int)) r8 er8) (.inr (zZ (zI zM zx) z6)) ?_
      refine uA 2 0x800000000000000588 1288 ?_
      obtain ⟨h6,H⟩ | ⟨h6,H⟩ := bC H
      ·refine nA h6 ?_
       refine tK ?_
       refine rA 3 ?_
       obtain ⟨v9,ev9,H⟩ := bs H
       refine oA Link.row ev9 ?_
       refine dE (tI 78) (.box 3) [(0,0),(1,((Int.tmod r3 (r2.1.Ls.length : Int)).toNat))] 4 0 [.sl true 3 [(Net.row r2.1)]] (Link.row v9) (zO rfl (zK ev9).2) ?_
       refine uA 2 5504 5376 ?_
       refine tS ?_
       refine gA 1 13696 5376 ?_
       obtain ⟨o15,eo15,Ho15⟩ := bs H
       clear H
       refine Tr.mid (ι := Unit) (fun v => ⟨157,0,[sA 12 12 4 0,sA 10 10 3 0],[(12,(Link.row v9)),(10,(Net.row r6.1))]⟩) (fun v => Qn n r6 v9 = some r) ?_ ?_
       ·refine tB ?_
        refine Tr.loop (ι := Nat × (Int)) (fun v => ⟨157,0,[sI 13 v.2,sA 12 12 4 0,sA 10 10 3 0,sA 8 8 3 0,sI 7 (Int.tmod r3 (r2.1.Ls.length : Int))],[(12,(Link.row v9)),(10,(Net.row r6.1)),(8,(Net.row r5.1))]⟩) (fun v => qy n v.1 r2 r3 r5 v9 v.2 = some o15) (fun v => v.1) (n,0) eo15 (St.sub_of [13,12,10,8,7] [12,10,8] kr) ?_
        rintro ⟨mo15,y10⟩ H
        have H : qy n mo15 r2 r3 r5 v9 y10 = some o15 := H
        obtain _ | mo15 := mo15
        ·exact nN H
        rw [qy] at H
        refine tS ?_
        refine rA 3 ?_
        refine kO r5.1.Said Say.row ?_
        refine uA 1 0x200000000000000003580 5376 ?_
        obtain ⟨h8,H⟩ | ⟨h8,H⟩ := bC H
        ·refine nA h8 ?_
         refine Tr.exit ?_
         refine aJ ?_
         obtain rfl := si H
         have H := Ho15
         dsimp only at H
         exact jA () H [12,10] [12,10]
        refine tA h8 ?_
        refine tK ?_
        refine tS ?_
        refine tB ?_
        refine rA 3 ?_
        obtain ⟨v16,ev16,H⟩ := bs H
        refine oA Say.row ev16 ?_
        refine lA 1 ?_
        refine dE (tI 3) (.box 8) [(0,0),(2,(y10.toNat))] 7 0 [.sl true 3 [(Net.row r5.1)]] (Say.row v16) (zO rfl (zK ev16).2) ?_
        refine uA 2 0x80000000000000000003580 5376 ?_
        obtain ⟨h9,H⟩ | ⟨h9,H⟩ := bC H
        ·refine nA h9 ?_
         refine tK ?_
         refine eA 3 13696 5376 ?_
         exact jB mo15 (IntKind.wrap .i64 (y10 + 1)) H [13,12,10,8,7] [12,10,8]
        refine tA h9 ?_
        refine rA 3 ?_
        obtain ⟨r17,er17,H⟩ := bs H
        refine vB [.rd,.rd] [.box 8] (zDM n r5.1 (⟨2,y10⟩ : Event) r17 er17) (.inr (zZ (Net.row_mine _) (zZ (zI zM zx) z6))) ?_
        refine LAt.movT tOk (ty := 72) (t := 96) (d := 92) (g := none) [(true,(Net.row r17.1)),(false,[cB r17.2])] _ kr (.inl rfl) kr kr kr kr rfl ?_
        refine uA 5 62848 21760 ?_
        refine sT ⟨157,0,[sB 15 r17.2,sA 14 14 3 0,sI 13 y10,sA 12 12 4 0,sA 10 10 3 0,sA 8 8 3 0,sI 7 (Int.tmod r3 (r2.1.Ls.length : Int))],[(14,(Net.row r17.1)),(12,(Link.row v9)),(10,(Net.row r6.1)),(8,(Net.row r5.1))]⟩ ?_
        cases h10 : (!r17.2)
        ·have H := zF h10 H
         obtain ⟨v18,ev18,H⟩ := bs H
         obtain ⟨v19,ev19,H⟩ := bs H
         refine sT ⟨157,0,[sB 15 r17.2,sA 14 14 3 0,sI 13 y10,sA 12 12 4 0,sA 10 10 3 0,sA 8 8 3 0,sI 7 (Int.tmod r3 (r2.1.Ls.length : Int))],[(14,(Net.row r17.1)),(12,(Link.row v9)),(10,(Net.row r6.1)),(8,(Net.row r5.1))]⟩ ?_
         cases h11 : v19.Has
         ·have H := zF h11 H
          obtain ⟨v20,ev20,H⟩ := bs H
          obtain ⟨v21,ev21,H⟩ := bs H
          refine sT ⟨157,0,[sB 15 r17.2,sA 14 14 3 0,sI 13 y10,sA 12 12 4 0,sA 10 10 3 0,sA 8 8 3 0,sI 7 (Int.tmod r3 (r2.1.Ls.length : Int))],[(14,(Net.row r17.1)),(12,(Link.row v9)),(10,(Net.row r6.1)),(8,(Net.row r5.1))]⟩ ?_
          refine Tr.draws mixed 30 kr ⟨157,0,[sB 128 v21.Has,sI 13 y10,sA 12 12 4 0,sA 10 10 3 0,sA 8 8 3 0,sI 7 (Int.tmod r3 (r2.1.Ls.length : Int))],[(12,(Link.row v9)),(10,(Net.row r6.1)),(8,(Net.row r5.1))]⟩ (zEe n r17 y10 r3 r2 v9 r6 r5 v18 v19 v20 v21 h10 ev18 ev19 ev20 ev21 h11) ?_
          refine sT ⟨157,0,[sB 128 v21.Has,sI 13 y10,sA 12 12 4 0,sA 10 10 3 0,sA 8 8 3 0,sI 7 (Int.tmod r3 (r2.1.Ls.length : Int))],[(12,(Link.row v9)),(10,(Net.row r6.1)),(8,(Net.row r5.1))]⟩ ?_
          cases h12 : v21.Has
          ·have H := zF h12 H
           refine nB_ ?_
           refine tK ?_
           refine eA 3 13696 5376 ?_
           exact jB mo15 (IntKind.wrap .i64 (y10 + 1)) H [13,12,10,8,7] [12,10,8]
          have H := zG h12 H
          refine tB_ ?_
          refine gA 1 4 0 ?_
          refine te ?_
          obtain rfl := si H
          have H := Ho15
          dsimp only at H
          exact fF H
         have H := zG h11 H
         refine sT ⟨157,0,[sB 15 r17.2,sA 14 14 3 0,sI 13 y10,sA 12 12 4 0,sA 10 10 3 0,sA 8 8 3 0,sI 7 (Int.tmod r3 (r2.1.Ls.length : Int))],[(14,(Net.row r17.1)),(12,(Link.row v9)),(10,(Net.row r6.1)),(8,(Net.row r5.1))]⟩ ?_
         refine Tr.draws mixed 30 kr ⟨157,0,[sB 128 true,sI 13 y10,sA 12 12 4 0,sA 10 10 3 0,sA 8 8 3 0,sI 7 (Int.tmod r3 (r2.1.Ls.length : Int))],[(12,(Link.row v9)),(10,(Net.row r6.1)),(8,(Net.row r5.1))]⟩ (zEf n r17 y10 r3 r2 v9 r6 r5 v18 v19 h10 ev18 ev19 h11) ?_
         refine tB_ ?_
         refine gA 1 4 0 ?_
         refine te ?_
         obtain rfl := si H
         have H := Ho15
         dsimp only at H
         exact fF H
        have H := zG h10 H
        refine Tr.draws mixed 30 kr ⟨157,0,[sB 128 true,sI 13 y10,sA 12 12 4 0,sA 10 10 3 0,sA 8 8 3 0,sI 7 (Int.tmod r3 (r2.1.Ls.length : Int))],[(12,(Link.row v9)),(10,(Net.row r6.1)),(8,(Net.row r5.1))]⟩ (fun cx => ?_) ?_
        ·refine mA ZA [(0,[]),(1,[]),(2,[])] 27 [] fun cx => ?_
         refine sA_ 0x20000000000000000000007580 21760 ⟨157,0,[sB 101 (!r17.2),sA 14 14 3 0,sI 13 y10,sA 12 12 4 0,sA 10 10 3 0,sA 8 8 3 0,sI 7 (Int.tmod r3 (r2.1.Ls.length : Int))],[(14,(Net.row r17.1)),(12,(Link.row v9)),(10,(Net.row r6.1)),(8,(Net.row r5.1))]⟩ ?_
         rw [h10]
         refine mA ZA [(3,[]),(4,[]),(5,[]),(6,[]),(7,[]),(8,[]),(9,[]),(10,[]),(11,[]),(12,[]),(13,[]),(14,[]),(15,[]),(16,[]),(17,[]),(18,[]),(19,[]),(20,[]),(21,[]),(22,[]),(23,[]),(24,[]),(25,[]),(26,[]),(27,[]),(28,[]),(29,[])] 0 [] fun cx => ?_
         exact mE ZA [128,13,12,10,8,7] [12,10,8]
        refine tB_ ?_
        refine gA 1 4 0 ?_
        refine te ?_
        obtain rfl := si H
        have H := Ho15
        dsimp only at H
        exact fF H
       rintro _ H
       have H : (Qn n r6 v9) = some r := H
       unfold Qn at H
       obtain ⟨v11,ev11,H⟩ := bs H
       obtain ⟨v12,ev12,H⟩ := bs H
       refine sT ⟨157,0,[sA 12 12 4 0,sA 10 10 3 0],[(12,(Link.row v9)),(10,(Net.row r6.1))]⟩ ?_
       cases h7 : (!v12.Has)
       ·have H := zF h7 H
        refine sT ⟨157,0,[sA 12 12 4 0,sA 10 10 3 0],[(12,(Link.row v9)),(10,(Net.row r6.1))]⟩ ?_
        refine Tr.draws mixed 29 kr ⟨157,0,[sB 2 false],[]⟩ (zEc n v9 r6 v11 v12 ev12 h7 ev11) ?_
        exact te (fF H)
       have H := zG h7 H
       obtain ⟨v13,ev13,H⟩ := bs H
       obtain ⟨v14,ev14,H⟩ := bs H
       refine sT ⟨157,0,[sA 12 12 4 0,sA 10 10 3 0],[(12,(Link.row v9)),(10,(Net.row r6.1))]⟩ ?_
       refine Tr.draws mixed 29 kr ⟨157,0,[sB 2 (!v14.Has)],[]⟩ (zEd n v9 r6 v11 v12 v13 v14 ev12 ev13 ev14 h7 ev11) ?_
       exact te (fJ [(false,[cB (!v14.Has)])] H)
      refine tA h6 ?_
      refine gA 1 4 0 ?_
      exact te (fF H)
     have H := zG h5 H
     refine uA 5 0x800000000000000588 1288 ?_
     refine tB_ ?_
     refine gA 1 4 0 ?_
     exact te (fF H)
    have H := zG h4 H
    refine uA 10 0x800000000000000588 1288 ?_
    refine tB_ ?_
    refine gA 1 4 0 ?_
    exact te (fF H)
   have H := zG h3 H
   refine uA 14 0x800000000000000588 1288 ?_
   refine tB_ ?_
   refine gA 1 4 0 ?_
   exact te (fF H)
  refine tA h2 ?_
  refine rA 2 ?_
  obtain ⟨r22,er22,H⟩ := bs H
  refine vB [.rd,.rd] [.box 3] (zDM n r2.1 (⟨4,0⟩ : Event) r22 er22) (.inr (zZ (Net.row_mine _) (zZ (zI zM zx) z6))) ?_
  refine LAt.movT tOk (ty := 72) (t := 30) (d := 27) (g := none) [(true,(Net.row r22.1)),(false,[cB r22.2])] _ kr (.inl rfl) kr kr kr kr rfl ?_
  refine uA 5 64 0 ?_
  refine gA 3 4 0 ?_
  exact te (fJ [(false,[cB (!r22.2)])] H)
 have H := zG h1 H
 refine tB_ ?_
 refine gA 1 4 0 ?_
 exact te (fT H)
end Go.Proofs.Ytcegokjpmppdbaa.Tw
