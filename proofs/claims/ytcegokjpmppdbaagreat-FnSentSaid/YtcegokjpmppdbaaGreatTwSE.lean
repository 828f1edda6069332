import Derived.Test.YtcegokjpmppdbaaGreatProg
import Derived.Test.YtcegokjpmppdbaaGreatTlRule
import Derived.Test.YtcegokjpmppdbaaGreatTlU12
import Derived.Test.YtcegokjpmppdbaaGreatTwSE1
import Derived.WalkKit
set_option linter.unusedVariables false
set_option linter.unusedSimpArgs false
set_option maxRecDepth 100000
set_option maxHeartbeats 1000000
namespace Go.Proofs.YtcegokjpmppdbaaGreat.Tw
open Go Go.TL Go.Proofs
def Yc (n : Nat) : Option (Bool) :=
  (some true)
def qt (n : Nat) : Nat → (List zC) → (List zC) → Int → Option ((Unit) ⊕ (Bool))
  | 0,_,_,_ => none
  | mo2 + 1,x0,x1,y1 => (bif (decide (y1 < (x0.length : Int))) then ((idx x0 y1).bind fun v3 => ((idx x1 y1).bind fun v4 => (bif (!((v3.Id == v4.Id) && ((v3.Members == v4.Members) && ((v3.Bare == v4.Bare) && true)))) then (some (Sum.inr false)) else (qt n mo2 x0 x1 (IntKind.wrap .i64 (y1 + 1)))))) else (some (Sum.inl ())))
def YO (n : Nat) (x0 : (List zC)) (x1 : (List zC)) : Option (Bool) :=
  (bif ((x0.length : Int) != (x1.length : Int)) then (some false) else ((qt n n x0 x1 0).bind fun o => match o with | .inl _ => (Yc n) | .inr r => some r))
theorem zGf (n : Nat) (x0 : (List zC)) (x1 : (List zC)) (r : Bool) (H : YO n x0 x1 = some r) : zK Tryz.prog 135 [.val false [.sl false 3 (CV.frzEs (x0.map zC.row))],.val false [.sl false 3 (CV.frzEs (x1.map zC.row))]] [.val false [.lit (.bool r)]] [] := by
 refine cW Tryz.func135 (fun g d => sl [g 0,sl [g 1] (cn 10 (sl [g 2] .ret) .skip),sl [g 3] (.block 0 (.loop (sl [g 4,cn 14 .skip (.exit 0),.block 1 (sl [g 5,d 6] (cn 24 (sl [g 7] .ret) .skip))] (g 8)))),g 9] .ret) [.tmp 4] fun cx => ?_
 unfold YO at H
 refine gA 1 3 0 ?_
 refine tS ?_
 refine rA 1 ?_
 refine kF x0 zC.row ?_
 refine lA 1 ?_
 refine kF x1 zC.row ?_
 refine uA 1 1027 0 ?_
 obtain ⟨h1,H⟩ | ⟨h1,H⟩ := bC H
 ·refine nA h1 ?_
  refine tK ?_
  refine tS ?_
  refine rA 1 ?_
  refine kF x0 zC.row ?_
  refine uA 1 12291 0 ?_
  obtain ⟨o2,eo2,Ho2⟩ := bs H
  clear H
  refine Tr.mid (ι := Unit) (fun v => ⟨26,0,[],[]⟩) (fun v => Yc n = some r) ?_ ?_
  ·refine tB ?_
   refine Tr.loop (ι := Nat × (Int)) (fun v => ⟨26,0,[sI 13 v.2,sI 12 (x0.length : Int),sC 0 (cF 3 x0 zC.row),sC 1 (cF 3 x1 zC.row)],[]⟩) (fun v => qt n v.1 x0 x1 v.2 = some o2) (fun v => v.1) (n,0) eo2 (St.sub_of [13,12,0,1] [] kr) ?_
   rintro ⟨mo2,y1⟩ H
   have H : qt n mo2 x0 x1 y1 = some o2 := H
   obtain _ | mo2 := mo2
   ·exact nN H
   rw [qt] at H
   refine gA 1 28675 0 ?_
   refine tS ?_
   obtain ⟨h2,H⟩ | ⟨h2,H⟩ := bC H
   ·refine nA h2 ?_
    refine Tr.exit ?_
    refine aJ ?_
    obtain rfl := si H
    have H := Ho2
    dsimp only at H
    exact jA () H [] []
   refine tA h2 ?_
   refine tK ?_
   refine tS ?_
   refine tB ?_
   refine gA 2 12323 0 ?_
   obtain ⟨v3,ev3,H⟩ := bs H
   obtain ⟨v4,ev4,H⟩ := bs H
   refine Tr.draws mixed 9 kr ⟨26,0,[sB 24 (!((v3.Id == v4.Id) && ((v3.Members == v4.Members) && ((v3.Bare == v4.Bare) && true)))),sI 13 y1,sI 12 (x0.length : Int),sC 0 (cF 3 x0 zC.row),sC 1 (cF 3 x1 zC.row)],[]⟩ (fun cx => ?_) ?_
   ·refine aA [(0,[]),(1,[])] 7 [] fun cx => ?_
    refine aI tOk 2 37 0 16 17 18 none ⟨(.slot 16),[],0,false,3,(CV.frzEs (x0.map zC.row))⟩ y1 (zC.row v3) _ kr kr kr kr kr kr rfl (Zi ev3) rfl (fun cx => ?_)
    refine aA [(3,[]),(4,[]),(5,[])] 3 [] fun cx => ?_
    refine aI tOk 6 37 0 20 21 22 none ⟨(.slot 20),[],0,false,3,(CV.frzEs (x1.map zC.row))⟩ y1 (zC.row v4) _ kr kr kr kr kr kr rfl (Zi ev4) rfl (fun cx => ?_)
    refine aA [(7,[])] 1 [] fun cx => ?_
    refine bA 8 ?_
    refine LAt.eqSG true (t := 175) (ty := 175) (ty' := 4) (x := (.tmp 19)) (y := (.tmp 23)) (d := 24) (g := none) ((v3.Id == v4.Id) && ((v3.Members == v4.Members) && ((v3.Bare == v4.Bare) && true))) _ kr kr kr kr rfl ?_
    refine fA ?_
    exact eE [24,13,12,0,1] []
   refine sT ⟨26,0,[sB 24 (!((v3.Id == v4.Id) && ((v3.Members == v4.Members) && ((v3.Bare == v4.Bare) && true)))),sI 13 y1,sI 12 (x0.length : Int),sC 0 (cF 3 x0 zC.row),sC 1 (cF 3 x1 zC.row)],[]⟩ ?_
   cases h3 : (!((v3.Id == v4.Id) && ((v3.Members == v4.Members) && ((v3.Bare == v4.Bare) && true))))
   ·have H := zH h3 H
    refine nB_ ?_
    refine tK ?_
    refine eA 2 12291 0 ?_
    exact jB mo2 (IntKind.wrap .i64 (y1 + 1)) H [13,12,0,1] []
   have H := zI h3 H
   refine tB_ ?_
   refine gA 1 16 0 ?_
   refine te ?_
   obtain rfl := si H
   have H := Ho2
   dsimp only at H
   exact fF H
  rintro _ H
  have H : (Yc n) = some r := H
  unfold Yc at H
  refine gA 1 16 0 ?_
  exact te (fT H)
 refine tA h1 ?_
 refine gA 1 16 0 ?_
 exact te (fF H)
def Y1 (n : Nat) : Option (Bool) :=
  (some true)
def qy (n : Nat) : Nat → (List Int) → (List Int) → Int → Option ((Unit) ⊕ (Bool))
  | 0,_,_,_ => none
  | mo2 + 1,x0,x1,y1 => (bif (decide (y1 < (x0.length : Int))) then ((idx x0 y1).bind fun v3 => ((idx x1 y1).bind fun v4 => (bif (v3 != v4) then (some (Sum.inr false)) else (qy n mo2 x0 x1 (IntKind.wrap .i64 (y1 + 1)))))) else (some (Sum.inl ())))
def Yl (n : Nat) (x0 : (List Int)) (x1 : (List Int)) : Option (Bool) :=
  (bif ((x0.length : Int) != (x1.length : Int)) then (some false) else ((qy n n x0 x1 0).bind fun o => match o with | .inl _ => (Y1 n) | .inr r => some r))
theorem zG9 (n : Nat) (x0 : (List Int)) (x1 : (List Int)) (r : Bool) (H : Yl n x0 x1 = some r) : zK Tryz.prog 136 [.val false [.sl false 1 (CV.frzEs (x0.map intRow))],.val false [.sl false 1 (CV.frzEs (x1.map intRow))]] [.val false [.lit (.bool r)]] [] := by
 refine cW Tryz.func136 (fun g d => sl [g 0,sl [g 1] (cn 10 (sl [g 2] .ret) .skip),sl [g 3] (.block 0 (.loop (sl [g 4,cn 14 .skip (.exit 0),.block 1 (sl [g 5,d 6] (cn 24 (sl [g 7] .ret) .skip))] (g 8)))),g 9] .ret) [.tmp 4] fun cx => ?_
 unfold Yl at H
 refine gA 1 3 0 ?_
 refine tS ?_
 refine rA 1 ?_
 refine kF x0 intRow ?_
 refine lA 1 ?_
 refine kF x1 intRow ?_
 refine uA 1 1027 0 ?_
 obtain ⟨h1,H⟩ | ⟨h1,H⟩ := bC H
 ·refine nA h1 ?_
  refine tK ?_
  refine tS ?_
  refine rA 1 ?_
  refine kF x0 intRow ?_
  refine uA 1 12291 0 ?_
  obtain ⟨o2,eo2,Ho2⟩ := bs H
  clear H
  refine Tr.mid (ι := Unit) (fun v => ⟨26,0,[],[]⟩) (fun v => Y1 n = some r) ?_ ?_
  ·refine tB ?_
   refine Tr.loop (ι := Nat × (Int)) (fun v => ⟨26,0,[sI 13 v.2,sI 12 (x0.length : Int),sC 0 (cF 1 x0 intRow),sC 1 (cF 1 x1 intRow)],[]⟩) (fun v => qy n v.1 x0 x1 v.2 = some o2) (fun v => v.1) (n,0) eo2 (St.sub_of [13,12,0,1] [] kr) ?_
   rintro ⟨mo2,y1⟩ H
   have H : qy n mo2 x0 x1 y1 = some o2 := H
   obtain _ | mo2 := mo2
   ·exact nN H
   rw [qy] at H
   refine gA 1 28675 0 ?_
   refine tS ?_
   obtain ⟨h2,H⟩ | ⟨h2,H⟩ := bC H
   ·refine nA h2 ?_
    refine Tr.exit ?_
    refine aJ ?_
    obtain rfl := si H
    have H := Ho2
    dsimp only at H
    exact jA () H [] []
   refine tA h2 ?_
   refine tK ?_
   refine tS ?_
   refine tB ?_
   refine gA 2 12323 0 ?_
   obtain ⟨v3,ev3,H⟩ := bs H
   obtain ⟨v4,ev4,H⟩ := bs H
   refine Tr.draws mixed 9 kr ⟨26,0,[sB 24 (v3 != v4),sI 13 y1,sI 12 (x0.length : Int),sC 0 (cF 1 x0 intRow),sC 1 (cF 1 x1 intRow)],[]⟩ (fun cx => ?_) ?_
   ·refine aA [(0,[]),(1,[])] 7 [] fun cx => ?_
    refine aI tOk 2 25 0 16 17 18 none ⟨(.slot 16),[],0,false,1,(CV.frzEs (x0.map intRow))⟩ y1 [cI v3] _ kr kr kr kr kr kr rfl (Zi ev3) rfl (fun cx => ?_)
    refine aA [(3,[]),(4,[]),(5,[])] 3 [] fun cx => ?_
    refine aI tOk 6 25 0 20 21 22 none ⟨(.slot 20),[],0,false,1,(CV.frzEs (x1.map intRow))⟩ y1 [cI v4] _ kr kr kr kr kr kr rfl (Zi ev4) rfl (fun cx => ?_)
    refine aA [(7,[]),(8,[])] 0 [] fun cx => ?_
    exact eE [24,13,12,0,1] []
   refine sT ⟨26,0,[sB 24 (v3 != v4),sI 13 y1,sI 12 (x0.length : Int),sC 0 (cF 1 x0 intRow),sC 1 (cF 1 x1 intRow)],[]⟩ ?_
   cases h3 : (v3 != v4)
   ·have H := zH h3 H
    refine nB_ ?_
    refine tK ?_
    refine eA 2 12291 0 ?_
    exact jB mo2 (IntKind.wrap .i64 (y1 + 1)) H [13,12,0,1] []
   have H := zI h3 H
   refine tB_ ?_
   refine gA 1 16 0 ?_
   refine te ?_
   obtain rfl := si H
   have H := Ho2
   dsimp only at H
   exact fF H
  rintro _ H
  have H : (Y1 n) = some r := H
  unfold Y1 at H
  refine gA 1 16 0 ?_
  exact te (fT H)
 refine tA h1 ?_
 refine gA 1 16 0 ?_
 exact te (fF H)
def QN (n : Nat) (x0 : zA) (x1 : zA) : Option (Bool) :=
  (bif (x0.Tk == x1.Tk) then (bif (x0.Pa == x1.Pa) then (bif (x0.Wo == x1.Wo) then (bif (x0.Dr == x1.Dr) then (some (x0.Ve == x1.Ve)) else (some false)) else (some false)) else (some false)) else (some false))
def qf (n : Nat) : Nat → zA → zA → Int → Option ((Unit) ⊕ (Bool))
  | 0,_,_,_ => none
  | mo5 + 1,x0,x1,y4 => (bif (decide (y4 < (x0.F.length : Int))) then ((idx x0.F y4).bind fun v6 => ((idx x1.F y4).bind fun v7 => (bif (!((v6.Tag == v7.Tag) && ((v6.Mac == v7.Mac) && ((v6.Port == v7.Port) && ((v6.Age == v7.Age) && ((v6.Sc == v7.Sc) && true)))))) then (some (Sum.inr false)) else (qf n mo5 x0 x1 (IntKind.wrap .i64 (y4 + 1)))))) else (some (Sum.inl ())))
def QM (n : Nat) (x0 : zA) (x1 : zA) : Option (Bool) :=
  ((qf n n x0 x1 0).bind fun o => match o with | .inl _ => (QN n x0 x1) | .inr r => some r)
def qg (n : Nat) : Nat → zA → zA → Int → Option ((Unit) ⊕ (Bool))
  | 0,_,_,_ => none
  | mo8 + 1,x0,x1,y3 => (bif (decide (y3 < (x0.Ps.length : Int))) then ((idx x0.Ps y3).bind fun v9 => ((idx x1.Ps y3).bind fun v10 => (bif (!((v9.Up == v10.Up) && ((v9.Co == v10.Co) && ((v9.Has == v10.Has) && (((v9.Hd.Root == v10.Hd.Root) && ((v9.Hd.Co == v10.Hd.Co) && ((v9.Hd.Hops == v10.Hd.Hops) && ((v9.Hd.Bridge == v10.Hd.Bridge) && ((v9.Hd.Port == v10.Hd.Port) && true))))) && true))))) then (some (Sum.inr false)) else (qg n mo8 x0 x1 (IntKind.wrap .i64 (y3 + 1)))))) else (some (Sum.inl ())))
def Qt (n : Nat) (x0 : zA) (x1 : zA) : Option (Bool) :=
  (bif (x0.Id != x1.Id) then (some false) else (bif (!(x0.Name.toList == x1.Name.toList)) then (some false) else (bif ((x0.Ps.length : Int) != (x1.Ps.length : Int)) then (some false) else (bif ((x0.F.length : Int) != (x1.F.length : Int)) then (some false) else ((YO n x0.V.Rows x1.V.Rows).bind fun r1 => (bif (!r1) then (some false) else ((Yl n x0.V.Pv x1.V.Pv).bind fun r2 => (bif (!r2) then (some false) else ((qg n n x0 x1 0).bind fun o => match o with | .inl _ => (QM n x0 x1) | .inr r => some r)))))))))
theorem zFB (n : Nat) (x0 : zA) (x1 : zA) (r : Bool) (H : Qt n x0 x1 = some r) : zK Tryz.prog 39 [.val true (CV.frzRow (zA.row x0)),.val true (CV.frzRow (zA.row x1))] [.val false [.lit (.bool r)]] [] := by
 refine cW Tryz.func39 (fun g d => sl [g 0,sl [g 1] (cn 56 (sl [g 2] .ret) .skip),sl [g 3] (.block 0 (.loop (sl [g 4,cn 61 .skip (.exit 0),.block 1 (sl [g 5,d 6] (cn 73 (sl [g 7] .ret) .skip))] (g 8)))),sl [g 9] (.block 2 (.loop (sl [g 10,cn 79 .skip (.exit 2),.block 3 (sl [g 11,d 12] (cn 91 (sl [g 13] .ret) .skip))] (g 14)))),g 15] .ret) [.tmp 4] fun cx => ?_
 unfold Qt at H
 refine gA 3 12 12 ?_
 refine tS ?_
 refine rA 6 ?_
 refine sL 4108 12 ⟨126,0,[sB 12 (x0.Id != x1.Id),sA 3 3 11 0,sA 2 2 11 0],[(3,(CV.frzRow (zA.row x1))),(2,(CV.frzRow (zA.row x0)))]⟩ ?_
 cases h1 : (x0.Id != x1.Id)
 ·have H := zH h1 H
  refine lA 7 ?_
  refine sL 524300 12 ⟨126,0,[sB 19 (!(x0.Name.toList == x1.Name.toList)),sA 3 3 11 0,sA 2 2 11 0],[(3,(CV.frzRow (zA.row x1))),(2,(CV.frzRow (zA.row x0)))]⟩ ?_
  cases h2 : (!(x0.Name.toList == x1.Name.toList))
  ·have H := zH h2 H
   refine lA 2 ?_
   refine kF x0.Ps Pt.row ?_
   refine lA 2 ?_
   refine kF x1.Ps Pt.row ?_
   refine lA 3 ?_
   refine sL 268435468 12 ⟨126,0,[sB 28 ((x0.Ps.length : Int) != (x1.Ps.length : Int)),sA 3 3 11 0,sA 2 2 11 0],[(3,(CV.frzRow (zA.row x1))),(2,(CV.frzRow (zA.row x0)))]⟩ ?_
   cases h3 : ((x0.Ps.length : Int) != (x1.Ps.length : Int))
   ·have H := zH h3 H
    refine lA 2 ?_
    refine kF x0.F zB.row ?_
    refine lA 2 ?_
    refine kF x1.F zB.row ?_
    refine lA 3 ?_
    refine sL 137438953484 12 ⟨126,0,[sB 37 ((x0.F.length : Int) != (x1.F.length : Int)),sA 3 3 11 0,sA 2 2 11 0],[(3,(CV.frzRow (zA.row x1))),(2,(CV.frzRow (zA.row x0)))]⟩ ?_
    cases h4 : ((x0.F.length : Int) != (x1.F.length : Int))
    ·have H := zH h4 H
     refine lA 6 ?_
     obtain ⟨r1,er1,H⟩ := bs H
     refine vA [.rd,.rd] (zGf n x0.V.Rows x1.V.Rows r1 er1) ?_
     refine lA 3 ?_
     refine sL 0x80000000000c 12 ⟨126,0,[sB 47 (!r1),sA 3 3 11 0,sA 2 2 11 0],[(3,(CV.frzRow (zA.row x1))),(2,(CV.frzRow (zA.row x0)))]⟩ ?_
     cases h5 : (!r1)
     ·have H := zH h5 H
      refine lA 6 ?_
      obtain ⟨r2,er2,H⟩ := bs H
      refine vA [.rd,.rd] (zG9 n x0.V.Pv x1.V.Pv r2 er2) ?_
      refine uA 2 72057594037927948 12 ?_
      obtain ⟨h6,H⟩ | ⟨h6,H⟩ := bC H
      ·refine nA h6 ?_
       refine tK ?_
       refine tS ?_
       refine rA 2 ?_
       refine kF x0.Ps Pt.row ?_
       refine uA 1 0x180000000000000c 12 ?_
       obtain ⟨o8,eo8,Ho8⟩ := bs H
       clear H
       refine Tr.mid (ι := Unit) (fun v => ⟨126,0,[sA 3 3 11 0,sA 2 2 11 0],[(3,(CV.frzRow (zA.row x1))),(2,(CV.frzRow (zA.row x0)))]⟩) (fun v => QM n x0 x1 = some r) ?_ ?_
       ·refine tB ?_
        refine Tr.loop (ι := Nat × (Int)) (fun v => ⟨126,0,[sI 60 v.2,sI 59 (x0.Ps.length : Int),sA 3 3 11 0,sA 2 2 11 0],[(3,(CV.frzRow (zA.row x1))),(2,(CV.frzRow (zA.row x0)))]⟩) (fun v => qg n v.1 x0 x1 v.2 = some o8) (fun v => v.1) (n,0) eo8 (St.sub_of [60,59,3,2] [3,2] kr) ?_
        rintro ⟨mo8,y3⟩ H
        have H : qg n mo8 x0 x1 y3 = some o8 := H
        obtain _ | mo8 := mo8
        ·exact nN H
        rw [qg] at H
        refine gA 1 0x380000000000000c 12 ?_
        refine tS ?_
        obtain ⟨h13,H⟩ | ⟨h13,H⟩ := bC H
        ·refine nA h13 ?_
         refine Tr.exit ?_
         refine aJ ?_
         obtain rfl := si H
         have H := Ho8
         dsimp only at H
         exact jA () H [3,2] [3,2]
        refine tA h13 ?_
        refine tK ?_
        refine tS ?_
        refine tB ?_
        refine gA 2 0x180000000000002c 12 ?_
        obtain ⟨v9,ev9,H⟩ := bs H
        obtain ⟨v10,ev10,H⟩ := bs H
        refine Tr.draws mixed 11 kr ⟨126,0,[sB 73 (!((v9.Up == v10.Up) && ((v9.Co == v10.Co) && ((v9.Has == v10.Has) && (((v9.Hd.Root == v10.Hd.Root) && ((v9.Hd.Co == v10.Hd.Co) && ((v9.Hd.Hops == v10.Hd.Hops) && ((v9.Hd.Bridge == v10.Hd.Bridge) && ((v9.Hd.Port == v10.Hd.Port) && true))))) && true))))),sI 60 y3,sI 59 (x0.Ps.length : Int),sA 3 3 11 0,sA 2 2 11 0],[(3,(CV.frzRow (zA.row x1))),(2,(CV.frzRow (zA.row x0)))]⟩ (fun cx => ?_) ?_
        ·refine aA [(0,[]),(1,[10]),(2,[])] 8 [⟨[10],35,63,64⟩] fun cx => ?_
         refine aI tOk 3 35 0 64 65 66 none ⟨(.box 2),[(0,0)],2,false,8,(CV.frzEs (x0.Ps.map Pt.row))⟩ y3 (Pt.row v9) _ kr kr kr kr kr kr rfl (Zi ev9) rfl (fun cx => ?_)
         refine aA [(4,[]),(5,[]),(6,[10]),(7,[])] 3 [⟨[10],35,68,69⟩,⟨[10],35,63,64⟩] fun cx => ?_
         refine aI tOk 8 35 0 69 70 71 none ⟨(.box 3),[(0,0)],2,false,8,(CV.frzEs (x1.Ps.map Pt.row))⟩ y3 (Pt.row v10) _ kr kr kr kr kr kr rfl (Zi ev10) rfl (fun cx => ?_)
         refine aA [(9,[])] 1 [⟨[10],35,68,69⟩,⟨[10],35,63,64⟩] fun cx => ?_
         refine bA 10 ?_
         refine LAt.eqSG true (t := 167) (ty := 167) (ty' := 4) (x := (.tmp 67)) (y := (.tmp 72)) (d := 73) (g := none) ((v9.Up == v10.Up) && ((v9.Co == v10.Co) && ((v9.Has == v10.Has) && (((v9.Hd.Root == v10.Hd.Root) && ((v9.Hd.Co == v10.Hd.Co) && ((v9.Hd.Hops == v10.Hd.Hops) && ((v9.Hd.Bridge == v10.Hd.Bridge) && ((v9.Hd.Port == v10.Hd.Port) && true))))) && true)))) _ kr kr kr kr rfl ?_
         refine fA ?_
         exact eE [73,60,59,3,2] [3,2]
        refine sT ⟨126,0,[sB 73 (!((v9.Up == v10.Up) && ((v9.Co == v10.Co) && ((v9.Has == v10.Has) && (((v9.Hd.Root == v10.Hd.Root) && ((v9.Hd.Co == v10.Hd.Co) && ((v9.Hd.Hops == v10.Hd.Hops) && ((v9.Hd.Bridge == v10.Hd.Bridge) && ((v9.Hd.Port == v10.Hd.Port) && true))))) && true))))),sI 60 y3,sI 59 (x0.Ps.length : Int),sA 3 3 11 0,sA 2 2 11 0],[(3,(CV.frzRow (zA.row x1))),(2,(CV.frzRow (zA.row x0)))]⟩ ?_
        cases h14 : (!((v9.Up == v10.Up) && ((v9.Co == v10.Co) && ((v9.Has == v10.Has) && (((v9.Hd.Root == v10.Hd.Root) && ((v9.Hd.Co == v10.Hd.Co) && ((v9.Hd.Hops == v10.Hd.Hops) && ((v9.Hd.Bridge == v10.Hd.Bridge) && ((v9.Hd.Port == v10.Hd.Port) && true))))) && true)))))
        ·have H := zH h14 H
         refine nB_ ?_
         refine tK ?_
         refine eA 2 0x180000000000000c 12 ?_
         exact jB mo8 (IntKind.wrap .i64 (y3 + 1)) H [60,59,3,2] [3,2]
        have H := zI h14 H
        refine tB_ ?_
        refine gA 1 16 0 ?_
        refine te ?_
        obtain rfl := si H
        have H := Ho8
        dsimp only at H
        exact fF H
       rintro _ H
       have H : (QM n x0 x1) = some r := H
       unfold QM at H
       refine tS ?_
       refine rA 2 ?_
       refine kF x0.F zB.row ?_
       refine uA 1 0x6000000000000000000c 12 ?_
       obtain ⟨o5,eo5,Ho5⟩ := bs H
       clear H
       refine Tr.mid (ι := Unit) (fun v => ⟨126,0,[sA 3 3 11 0,sA 2 2 11 0],[(3,(CV.frzRow (zA.row x1))),(2,(CV.frzRow (zA.row x0)))]⟩) (fun v => QN n x0 x1 = some r) ?_ ?_
       ·refine tB ?_
        refine Tr.loop (ι := Nat × (Int)) (fun v => ⟨126,0,[sI 78 v.2,sI 77 (x0.F.length : Int),sA 3 3 11 0,sA 2 2 11 0],[(3,(CV.frzRow (zA.row x1))),(2,(CV.frzRow (zA.row x0)))]⟩) (fun v => qf n v.1 x0 x1 v.2 = some o5) (fun v => v.1) (n,0) eo5 (St.sub_of [78,77,3,2] [3,2] kr) ?_
        rintro ⟨mo5,y4⟩ H
        have H : qf n mo5 x0 x1 y4 = some o5 := H
        obtain _ | mo5 := mo5
        ·exact nN H
        rw [qf] at H
        refine gA 1 0xe000000000000000000c 12 ?_
        refine tS ?_
        obtain ⟨h11,H⟩ | ⟨h11,H⟩ := bC H
        ·refine nA h11 ?_
         refine Tr.exit ?_
         refine aJ ?_
         obtain rfl := si H
         have H := Ho5
         dsimp only at H
         exact jA () H [3,2] [3,2]
        refine tA h11 ?_
        refine tK ?_
        refine tS ?_
        refine tB ?_
        refine gA 2 0x6000000000000000004c 12 ?_
        obtain ⟨v6,ev6,H⟩ := bs H
        obtain ⟨v7,ev7,H⟩ := bs H
        refine Tr.draws mixed 11 kr ⟨126,0,[sB 91 (!((v6.Tag == v7.Tag) && ((v6.Mac == v7.Mac) && ((v6.Port == v7.Port) && ((v6.Age == v7.Age) && ((v6.Sc == v7.Sc) && true)))))),sI 78 y4,sI 77 (x0.F.length : Int),sA 3 3 11 0,sA 2 2 11 0],[(3,(CV.frzRow (zA.row x1))),(2,(CV.frzRow (zA.row x0)))]⟩ (fun cx => ?_) ?_
        ·refine aA [(0,[]),(1,[10]),(2,[])] 8 [⟨[10],36,81,82⟩] fun cx => ?_
         refine aI tOk 3 36 0 82 83 84 none ⟨(.box 2),[(0,0)],3,false,5,(CV.frzEs (x0.F.map zB.row))⟩ y4 (zB.row v6) _ kr kr kr kr kr kr rfl (Zi ev6) rfl (fun cx => ?_)
         refine aA [(4,[]),(5,[]),(6,[10]),(7,[])] 3 [⟨[10],36,86,87⟩,⟨[10],36,81,82⟩] fun cx => ?_
         refine aI tOk 8 36 0 87 88 89 none ⟨(.box 3),[(0,0)],3,false,5,(CV.frzEs (x1.F.map zB.row))⟩ y4 (zB.row v7) _ kr kr kr kr kr kr rfl (Zi ev7) rfl (fun cx => ?_)
         refine aA [(9,[])] 1 [⟨[10],36,86,87⟩,⟨[10],36,81,82⟩] fun cx => ?_
         refine bA 10 ?_
         refine LAt.eqSG true (t := 169) (ty := 169) (ty' := 4) (x := (.tmp 85)) (y := (.tmp 90)) (d := 91) (g := none) ((v6.Tag == v7.Tag) && ((v6.Mac == v7.Mac) && ((v6.Port == v7.Port) && ((v6.Age == v7.Age) && ((v6.Sc == v7.Sc) && true))))) _ kr kr kr kr rfl ?_
         refine fA ?_
         exact eE [91,78,77,3,2] [3,2]
        refine sT ⟨126,0,[sB 91 (!((v6.Tag == v7.Tag) && ((v6.Mac == v7.Mac) && ((v6.Port == v7.Port) && ((v6.Age == v7.Age) && ((v6.Sc == v7.Sc) && true)))))),sI 78 y4,sI 77 (x0.F.length : Int),sA 3 3 11 0,sA 2 2 11 0],[(3,(CV.frzRow (zA.row x1))),(2,(CV.frzRow (zA.row x0)))]⟩ ?_
        cases h12 : (!((v6.Tag == v7.Tag) && ((v6.Mac == v7.Mac) && ((v6.Port == v7.Port) && ((v6.Age == v7.Age) && ((v6.Sc == v7.Sc) && true))))))
        ·have H := zH h12 H
         refine nB_ ?_
         refine tK ?_
         refine eA 2 0x6000000000000000000c 12 ?_
         exact jB mo5 (IntKind.wrap .i64 (y4 + 1)) H [78,77,3,2] [3,2]
        have H := zI h12 H
        refine tB_ ?_
        refine gA 1 16 0 ?_
        refine te ?_
        obtain rfl := si H
        have H := Ho5
        dsimp only at H
        exact fF H
       rintro _ H
       have H : (QN n x0 x1) = some r := H
       unfold QN at H
       refine rA 6 ?_
       refine sL 0x400000000000000000000000c 12 ⟨126,0,[sB 98 (x0.Tk == x1.Tk),sA 3 3 11 0,sA 2 2 11 0],[(3,(CV.frzRow (zA.row x1))),(2,(CV.frzRow (zA.row x0)))]⟩ ?_
       cases h7 : (x0.Tk == x1.Tk)
       ·have H := zH h7 H
        refine uA 28 16 0 ?_
        exact te (fF H)
       have H := zI h7 H
       refine lA 7 ?_
       refine sL 0x20000000000000000000000000c 12 ⟨126,0,[sB 105 (x0.Pa == x1.Pa),sA 3 3 11 0,sA 2 2 11 0],[(3,(CV.frzRow (zA.row x1))),(2,(CV.frzRow (zA.row x0)))]⟩ ?_
       cases h8 : (x0.Pa == x1.Pa)
       ·have H := zH h8 H
        refine uA 21 16 0 ?_
        exact te (fF H)
       have H := zI h8 H
       refine lA 7 ?_
       refine sL 0x1000000000000000000000000000c 12 ⟨126,0,[sB 112 (x0.Wo == x1.Wo),sA 3 3 11 0,sA 2 2 11 0],[(3,(CV.frzRow (zA.row x1))),(2,(CV.frzRow (zA.row x0)))]⟩ ?_
       cases h9 : (x0.Wo == x1.Wo)
       ·have H := zH h9 H
        refine uA 14 16 0 ?_
        exact te (fF H)
       have H := zI h9 H
       refine lA 7 ?_
       refine sL 0x80000000000000000000000000000c 12 ⟨126,0,[sB 119 (x0.Dr == x1.Dr),sA 3 3 11 0,sA 2 2 11 0],[(3,(CV.frzRow (zA.row x1))),(2,(CV.frzRow (zA.row x0)))]⟩ ?_
       cases h10 : (x0.Dr == x1.Dr)
       ·have H := zH h10 H
        refine uA 7 16 0 ?_
        exact te (fF H)
       have H := zI h10 H
       refine uA 7 16 0 ?_
       exact te (fJ [(false,[cB (x0.Ve == x1.Ve)])] H)
      refine tA h6 ?_
      refine gA 1 16 0 ?_
      exact te (fF H)
     have H := zI h5 H
     refine uA 9 72057594037927948 12 ?_
     refine tB_ ?_
     refine gA 1 16 0 ?_
     exact te (fF H)
    have H := zI h4 H
    refine uA 19 72057594037927948 12 ?_
    refine tB_ ?_
    refine gA 1 16 0 ?_
    exact te (fF H)
   have H := zI h3 H
   refine uA 28 72057594037927948 12 ?_
   refine tB_ ?_
   refine gA 1 16 0 ?_
   exact te (fF H)
  have H := zI h2 H
  refine uA 37 72057594037927948 12 ?_
  refine tB_ ?_
  refine gA 1 16 0 ?_
  exact te (fF H)
 have H := zI h1 H
 refine uA 44 72057594037927948 12 ?_
 refine tB_ ?_
 refine gA 1 16 0 ?_
 exact te (fF H)
def Q4 (n : Nat) (x0 : Frame) (x1 : Frame) : Option (Bool) :=
  (bif (x0.Dst == x1.Dst) then (bif (x0.Src == x1.Src) then (bif (x0.Tag == x1.Tag) then (some ((strOf x0.Data).toList == (strOf x1.Data).toList)) else (some false)) else (some false)) else (some false))
theorem zFk (n : Nat) (x0 : Frame) (x1 : Frame) (r : Bool) (H : Q4 n x0 x1 = some r) : zK Tryz.prog 137 [.val true (CV.frzRow (Frame.row x0)),.val true (CV.frzRow (Frame.row x1))] [.val false [.lit (.bool r)]] [] := by
 refine cW Tryz.func137 (fun g d => sl [g 0,g 1] .ret) [.tmp 4] fun cx => ?_
 unfold Q4 at H
 refine gA 3 12 12 ?_
 refine rA 6 ?_
 refine sL 1036 12 ⟨33,0,[sB 10 (x0.Dst == x1.Dst),sA 3 3 4 0,sA 2 2 4 0],[(3,(CV.frzRow (Frame.row x1))),(2,(CV.frzRow (Frame.row x0)))]⟩ ?_
 cases h1 : (x0.Dst == x1.Dst)
 ·have H := zH h1 H
  refine uA 23 16 0 ?_
  exact te (fF H)
 have H := zI h1 H
 refine lA 7 ?_
 refine sL 131084 12 ⟨33,0,[sB 17 (x0.Src == x1.Src),sA 3 3 4 0,sA 2 2 4 0],[(3,(CV.frzRow (Frame.row x1))),(2,(CV.frzRow (Frame.row x0)))]⟩ ?_
 cases h2 : (x0.Src == x1.Src)
 ·have H := zH h2 H
  refine uA 16 16 0 ?_
  exact te (fF H)
 have H := zI h2 H
 refine lA 7 ?_
 refine sL 16777228 12 ⟨33,0,[sB 24 (x0.Tag == x1.Tag),sA 3 3 4 0,sA 2 2 4 0],[(3,(CV.frzRow (Frame.row x1))),(2,(CV.frzRow (Frame.row x0)))]⟩ ?_
 cases h3 : (x0.Tag == x1.Tag)
 ·have H := zH h3 H
  refine uA 9 16 0 ?_
  exact te (fF H)
 have H := zI h3 H
 refine lA 2 ?_
 refine LAt.b2s tOk (t := 30) (u := 9) (ty := 9) (x := (.tmp 26)) (d := 27) (g := (some (19,true))) ⟨(.slot 26),[],0,false,1,(CV.frzEs (x0.Data.map zM))⟩ x0.Data kr kr kr kr kr kr kr (.inr rfl) ?_
 refine lA 2 ?_
 refine LAt.b2s tOk (t := 30) (u := 9) (ty := 9) (x := (.tmp 29)) (d := 30) (g := (some (19,true))) ⟨(.slot 29),[],0,false,1,(CV.frzEs (x1.Data.map zM))⟩ x1.Data kr kr kr kr kr kr kr (.inr rfl) ?_
 refine uA 3 16 0 ?_
 exact te (fJ [(false,[cB ((strOf x0.Data).toList == (strOf x1.Data).toList)])] H)
def Ye (n : Nat) : Option (Bool) :=
  (some true)
def qu (n : Nat) : Nat → (List Out) → (List Out) → Int → Option ((Unit) ⊕ (Bool))
  | 0,_,_,_ => none
  | mo2 + 1,x0,x1,y1 => (bif (decide (y1 < (x0.length : Int))) then ((idx x0 y1).bind fun v3 => ((idx x1 y1).bind fun v4 => (bif (v3.Port != v4.Port) then (some (Sum.inr false)) else ((idx x0 y1).bind fun v5 => ((idx x1 y1).bind fun v6 => ((Q4 n v5.F v6.F).bind fun r7 => (bif (!r7) then (some (Sum.inr false)) else (qu n mo2 x0 x1 (IntKind.wrap .i64 (y1 + 1)))))))))) else (some (Sum.inl ())))
def YQ (n : Nat) (x0 : (List Out)) (x1 : (List Out)) : Option (Bool) :=
  (bif ((x0.length : Int) != (x1.length : Int)) then (some false) else ((qu n n x0 x1 0).bind fun o => match o with | .inl _ => (Ye n) | .inr r => some r))
def zKo : Tab := ⟨25,[0,0,3,4,8,0,0,96,128,256,528,1024,2048,2048,14336,18432,34816,2048,2048,395264,526336,1050624,2164736,4196352,8390656],[0,0,3,4,8,0,0,96,128,256,528,1024,2048,2048,14336,18432,34816,2048,2048,395264,526336,1050624,2164736,4196352,8390656],[0,0,3,7,15,0,0,96,224,480,1023,2047,4095,4095,16383,32767,65535,4095,4095,397311,921599,1970175,4194303,8388607,16777215]⟩
theorem QP : z7 (rg Tryz.f40 6) zKo = true := kr
theorem zGg (n : Nat) (x0 : (List Out)) (x1 : (List Out)) (r : Bool) (H : YQ n x0 x1 = some r) : zK Tryz.prog 40 [.val false [.sl false 5 (CV.frzEs (x0.map Out.row))],.val false [.sl false 5 (CV.frzEs (x1.map Out.row))]] [.val false [.lit (.bool r)]] [] := by
 refine cW Tryz.func40 (fun g d => sl [g 0,sl [g 1] (cn 10 (sl [g 2] .ret) .skip),sl [g 3] (.block 0 (.loop (sl [sl [g 4] (cn 14 .skip (.exit 0)),.block 1 (sl [d 6] (cn 41 (sl [g 7] .ret) .skip))] (g 5)))),g 8] .ret) [.tmp 4] fun cx => ?_
 unfold YQ at H
 refine gA 1 3 0 ?_
 refine tS ?_
 refine rA 1 ?_
 refine kF x0 Out.row ?_
 refine lA 1 ?_
 refine kF x1 Out.row ?_
 refine uA 1 1027 0 ?_
 obtain ⟨h1,H⟩ | ⟨h1,H⟩ := bC H
 ·refine nA h1 ?_
  refine tK ?_
  refine tS ?_
  refine gA 1 35 0 ?_
  obtain ⟨o2,eo2,Ho2⟩ := bs H
  clear H
  refine Tr.mid (ι := Unit) (fun v => ⟨42,0,[],[]⟩) (fun v => Ye n = some r) ?_ ?_
  ·refine tB ?_
   refine Tr.loop (ι := Nat × (Int)) (fun v => ⟨42,0,[sI 5 v.2,sC 0 (cF 5 x0 Out.row),sC 1 (cF 5 x1 Out.row)],[]⟩) (fun v => qu n v.1 x0 x1 v.2 = some o2) (fun v => v.1) (n,0) eo2 (St.sub_of [5,0,1] [] kr) ?_
   rintro ⟨mo2,y1⟩ H
   have H : qu n mo2 x0 x1 y1 = some o2 := H
   obtain _ | mo2 := mo2
   ·exact nN H
   rw [qu] at H
   refine tS ?_
   refine rA 2 ?_
   refine kF x0 Out.row ?_
   refine uA 1 16419 0 ?_
   obtain ⟨h2,H⟩ | ⟨h2,H⟩ := bC H
   ·refine nA h2 ?_
    refine Tr.exit ?_
    refine aJ ?_
    obtain rfl := si H
    have H := Ho2
    dsimp only at H
    exact jA () H [] []
   refine tA h2 ?_
   refine tK ?_
   refine tS ?_
   refine tB ?_
   obtain ⟨v3,ev3,H⟩ := bs H
   obtain ⟨v4,ev4,H⟩ := bs H
   refine sT ⟨42,0,[sB 14 (decide (y1 < (x0.length : Int))),sI 5 y1,sC 0 (cF 5 x0 Out.row),sC 1 (cF 5 x1 Out.row)],[]⟩ ?_
   cases h3 : (v3.Port != v4.Port)
   ·have H := zH h3 H
    obtain ⟨v5,ev5,H⟩ := bs H
    obtain ⟨v6,ev6,H⟩ := bs H
    obtain ⟨r7,er7,H⟩ := bs H
    refine Tr.draws mixed 25 kr ⟨42,0,[sB 41 (!r7),sI 5 y1,sC 0 (cF 5 x0 Out.row),sC 1 (cF 5 x1 Out.row)],[]⟩ (fun cx => ?_) ?_
    ·refine mA QP [(0,[]),(1,[])] 23 [] fun cx => ?_
     refine iN QP 2 Out.row ev3 fun cx => ?_
     refine mA QP [(3,[]),(4,[]),(5,[]),(6,[])] 18 [] fun cx => ?_
     refine iN QP 7 Out.row ev4 fun cx => ?_
     refine mA QP [(8,[]),(9,[]),(10,[]),(11,[])] 13 [] fun cx => ?_
     refine sA_ 268435491 0 ⟨42,0,[sB 28 (v3.Port != v4.Port),sI 5 y1,sC 0 (cF 5 x0 Out.row),sC 1 (cF 5 x1 Out.row)],[]⟩ ?_
     rw [h3]
     refine mA QP [(12,[]),(13,[])] 11 [] fun cx => ?_
     refine iN QP 14 Out.row ev5 fun cx => ?_
     refine mA QP [(15,[]),(16,[]),(17,[]),(18,[])] 6 [] fun cx => ?_
     refine iN QP 19 Out.row ev6 fun cx => ?_
     refine mA QP [(20,[]),(21,[])] 3 [] fun cx => ?_
     refine mC QP 22 ?_
     refine vA [.rd,.rd] (zFk n v5.F v6.F r7 er7) ?_
     refine fA ?_
     refine mA QP [(23,[]),(24,[])] 0 [] fun cx => ?_
     exact mE QP [41,5,0,1] []
    refine sT ⟨42,0,[sB 41 (!r7),sI 5 y1,sC 0 (cF 5 x0 Out.row),sC 1 (cF 5 x1 Out.row)],[]⟩ ?_
    cases h4 : (!r7)
    ·have H := zH h4 H
     refine nB_ ?_
     refine tK ?_
     refine eA 3 35 0 ?_
     exact jB mo2 (IntKind.wrap .i64 (y1 + 1)) H [5,0,1] []
    have H := zI h4 H
    refine tB_ ?_
    refine gA 1 16 0 ?_
    refine te ?_
    obtain rfl := si H
    have H := Ho2
    dsimp only at H
    exact fF H
   have H := zI h3 H
   refine Tr.draws mixed 25 kr ⟨42,0,[sB 41 true,sI 5 y1,sC 0 (cF 5 x0 Out.row),sC 1 (cF 5 x1 Out.row)],[]⟩ (fun cx => ?_) ?_
   ·refine mA QP [(0,[]),(1,[])] 23 [] fun cx => ?_
    refine iN QP 2 Out.row ev3 fun cx => ?_
    refine mA QP [(3,[]),(4,[]),(5,[]),(6,[])] 18 [] fun cx => ?_
    refine iN QP 7 Out.row ev4 fun cx => ?_
    refine mA QP [(8,[]),(9,[]),(10,[]),(11,[])] 13 [] fun cx => ?_
    refine sA_ 268435491 0 ⟨42,0,[sB 28 (v3.Port != v4.Port),sI 5 y1,sC 0 (cF 5 x0 Out.row),sC 1 (cF 5 x1 Out.row)],[]⟩ ?_
    rw [h3]
    refine mA QP [(12,[]),(13,[]),(14,[]),(15,[]),(16,[]),(17,[]),(18,[]),(19,[]),(20,[]),(21,[]),(22,[]),(23,[]),(24,[])] 0 [] fun cx => ?_
    exact mE QP [41,5,0,1] []
   refine tB_ ?_
   refine gA 1 16 0 ?_
   refine te ?_
   obtain rfl := si H
   have H := Ho2
   dsimp only at H
   exact fF H
  rintro _ H
  have H : (Ye n) = some r := H
  unfold Ye at H
  refine gA 1 16 0 ?_
  exact te (fT H)
 refine tA h1 ?_
 refine gA 1 16 0 ?_
 exact te (fF H)
def qM (n : Nat) (x0 : Int) (x1 : Int) : Option (Bool) :=
  (bif (decide (x1 ≥ 0)) then (bif (decide (x1 < 8)) then (bif (decide ((0 : Int) ≤ (IntKind.wrap .u64 x1))) then (some ((IntKind.wrap .i64 (BitVec.ofInt (IntKind.bits .i64) (Int.fdiv x0 (2 ^ min (((IntKind.wrap .u64 x1) : Int)).toNat (IntKind.bits .i64))) &&& BitVec.ofInt (IntKind.bits .i64) 1).toNat) == 1)) else none) else (some false)) else (some false))
theorem ZM (n : Nat) (x0 : Int) (x1 : Int) (r : Bool) (H : qM n x0 x1 = some r) : zK Tryz.prog 44 [.val false [.lit (.int .i64 x0)],.val false [.lit (.int .i64 x1)]] [.val false [.lit (.bool r)]] [] := by
 refine cW Tryz.func44 (fun g d => sl [g 0,g 1] .ret) [.tmp 4] fun cx => ?_
 unfold qM at H
 refine gA 1 3 0 ?_
 refine rA 3 ?_
 refine sL 131 0 ⟨19,0,[sB 7 (decide (x1 ≥ 0)),sI 0 x0,sI 1 x1],[]⟩ ?_
 cases h1 : (decide (x1 ≥ 0))
 ·have H := zH h1 H
  refine uA 12 16 0 ?_
  exact te (fF H)
 have H := zI h1 H
 refine lA 4 ?_
 refine sL 2051 0 ⟨19,0,[sB 11 (decide (x1 < 8)),sI 0 x0,sI 1 x1],[]⟩ ?_
 cases h2 : (decide (x1 < 8))
 ·have H := zH h2 H
  refine uA 8 16 0 ?_
  exact te (fF H)
 have H := zI h2 H
 refine lA 3 ?_
 obtain ⟨hg1,H⟩ := gs H
 refine LAt.binC tOk (op := .shr) (t := 3) (ty := 124) (ty' := 3) (x := (.tmp 12)) (y := (.tmp 14)) (d := 15) (g := (some (6,true))) (.int .i64 x0) (.int .u64 (IntKind.wrap .u64 x1)) (.int .i64 (Int.fdiv x0 (2 ^ min (((IntKind.wrap .u64 x1) : Int)).toNat (IntKind.bits .i64)))) _ kr kr kr kr kr (φ := (0 : Int) ≤ (IntKind.wrap .u64 x1)) kr (of_decide_eq_true hg1) rfl ?_
 refine uA 4 16 0 ?_
 exact te (fJ [(false,[cB ((IntKind.wrap .i64 (BitVec.ofInt (IntKind.bits .i64) (Int.fdiv x0 (2 ^ min (((IntKind.wrap .u64 x1) : Int)).toNat (IntKind.bits .i64))) &&& BitVec.ofInt (IntKind.bits .i64) 1).toNat) == 1)])] H)
def Y3 (n : Nat) : Option (Bool) :=
  (some true)
def qz (n : Nat) : Nat → (List zB) → (List zB) → Int → Option ((Unit) ⊕ (Bool))
  | 0,_,_,_ => none
  | mo2 + 1,x0,x1,y1 => (bif (decide (y1 < (x0.length : Int))) then ((idx x0 y1).bind fun v3 => ((idx x1 y1).bind fun v4 => (bif (!((v3.Tag == v4.Tag) && ((v3.Mac == v4.Mac) && ((v3.Port == v4.Port) && ((v3.Age == v4.Age) && ((v3.Sc == v4.Sc) && true)))))) then (some (Sum.inr false)) else (qz n mo2 x0 x1 (IntKind.wrap .i64 (y1 + 1)))))) else (some (Sum.inl ())))
def Ym (n : Nat) (x0 : (List zB)) (x1 : (List zB)) : Option (Bool) :=
  (bif ((x0.length : Int) != (x1.length : Int)) then (some false) else ((qz n n x0 x1 0).bind fun o => match o with | .inl _ => (Y3 n) | .inr r => some r))
theorem zHC (n : Nat) (x0 : (List zB)) (x1 : (List zB)) (r : Bool) (H : Ym n x0 x1 = some r) : zK Tryz.prog 45 [.val false [.sl false 5 (CV.frzEs (x0.map zB.row))],.val false [.sl false 5 (CV.frzEs (x1.map zB.row))]] [.val false [.lit (.bool r)]] [] := by
 refine cW Tryz.func45 (fun g d => sl [g 0,sl [g 1] (cn 10 (sl [g 2] .ret) .skip),sl [g 3] (.block 0 (.loop (sl [sl [g 4] (cn 14 .skip (.exit 0)),.block 1 (sl [d 6] (cn 25 (sl [g 7] .ret) .skip))] (g 5)))),g 8] .ret) [.tmp 4] fun cx => ?_
 unfold Ym at H
 refine gA 1 3 0 ?_
 refine tS ?_
 refine rA 1 ?_
 refine kF x0 zB.row ?_
 refine lA 1 ?_
 refine kF x1 zB.row ?_
 refine uA 1 1027 0 ?_
 obtain ⟨h1,H⟩ | ⟨h1,H⟩ := bC H
 ·refine nA h1 ?_
  refine tK ?_
  refine tS ?_
  refine gA 1 35 0 ?_
  obtain ⟨o2,eo2,Ho2⟩ := bs H
  clear H
  refine Tr.mid (ι := Unit) (fun v => ⟨26,0,[],[]⟩) (fun v => Y3 n = some r) ?_ ?_
  ·refine tB ?_
   refine Tr.loop (ι := Nat × (Int)) (fun v => ⟨26,0,[sI 5 v.2,sC 0 (cF 5 x0 zB.row),sC 1 (cF 5 x1 zB.row)],[]⟩) (fun v => qz n v.1 x0 x1 v.2 = some o2) (fun v => v.1) (n,0) eo2 (St.sub_of [5,0,1] [] kr) ?_
   rintro ⟨mo2,y1⟩ H
   have H : qz n mo2 x0 x1 y1 = some o2 := H
   obtain _ | mo2 := mo2
   ·exact nN H
   rw [qz] at H
   refine tS ?_
   refine rA 2 ?_
   refine kF x0 zB.row ?_
   refine uA 1 16419 0 ?_
   obtain ⟨h2,H⟩ | ⟨h2,H⟩ := bC H
   ·refine nA h2 ?_
    refine Tr.exit ?_
    refine aJ ?_
    obtain rfl := si H
    have H := Ho2
    dsimp only at H
    exact jA () H [] []
   refine tA h2 ?_
   refine tK ?_
   refine tS ?_
   refine tB ?_
   obtain ⟨v3,ev3,H⟩ := bs H
   obtain ⟨v4,ev4,H⟩ := bs H
   refine Tr.draws mixed 9 kr ⟨26,0,[sB 25 (!((v3.Tag == v4.Tag) && ((v3.Mac == v4.Mac) && ((v3.Port == v4.Port) && ((v3.Age == v4.Age) && ((v3.Sc == v4.Sc) && true)))))),sI 5 y1,sC 0 (cF 5 x0 zB.row),sC 1 (cF 5 x1 zB.row)],[]⟩ (fun cx => ?_) ?_
   ·refine aA [(0,[]),(1,[])] 7 [] fun cx => ?_
    refine aI tOk 2 36 0 17 18 19 none ⟨(.slot 17),[],0,false,5,(CV.frzEs (x0.map zB.row))⟩ y1 (zB.row v3) _ kr kr kr kr kr kr rfl (Zi ev3) rfl (fun cx => ?_)
    refine aA [(3,[]),(4,[]),(5,[])] 3 [] fun cx => ?_
    refine aI tOk 6 36 0 21 22 23 none ⟨(.slot 21),[],0,false,5,(CV.frzEs (x1.map zB.row))⟩ y1 (zB.row v4) _ kr kr kr kr kr kr rfl (Zi ev4) rfl (fun cx => ?_)
    refine aA [(7,[])] 1 [] fun cx => ?_
    refine bA 8 ?_
    refine LAt.eqSG true (t := 169) (ty := 169) (ty' := 4) (x := (.tmp 20)) (y := (.tmp 24)) (d := 25) (g := none) ((v3.Tag == v4.Tag) && ((v3.Mac == v4.Mac) && ((v3.Port == v4.Port) && ((v3.Age == v4.Age) && ((v3.Sc == v4.Sc) && true))))) _ kr kr kr kr rfl ?_
    refine fA ?_
    exact eE [25,5,0,1] []
   refine sT ⟨26,0,[sB 25 (!((v3.Tag == v4.Tag) && ((v3.Mac == v4.Mac) && ((v3.Port == v4.Port) && ((v3.Age == v4.Age) && ((v3.Sc == v4.Sc) && true)))))),sI 5 y1,sC 0 (cF 5 x0 zB.row),sC 1 (cF 5 x1 zB.row)],[]⟩ ?_
   cases h3 : (!((v3.Tag == v4.Tag) && ((v3.Mac == v4.Mac) && ((v3.Port == v4.Port) && ((v3.Age == v4.Age) && ((v3.Sc == v4.Sc) && true))))))
   ·have H := zH h3 H
    refine nB_ ?_
    refine tK ?_
    refine eA 3 35 0 ?_
    exact jB mo2 (IntKind.wrap .i64 (y1 + 1)) H [5,0,1] []
   have H := zI h3 H
   refine tB_ ?_
   refine gA 1 16 0 ?_
   refine te ?_
   obtain rfl := si H
   have H := Ho2
   dsimp only at H
   exact fF H
  rintro _ H
  have H : (Y3 n) = some r := H
  unfold Y3 at H
  refine gA 1 16 0 ?_
  exact te (fT H)
 refine tA h1 ?_
 refine gA 1 16 0 ?_
 exact te (fF H)
def YG (n : Nat) : Option (Bool) :=
  (some true)
def qk (n : Nat) : Nat → (List Int) → (List Int) → Int → Option ((Unit) ⊕ (Bool))
  | 0,_,_,_ => none
  | mo2 + 1,x0,x1,y1 => (bif (decide (y1 < (x0.length : Int))) then ((idx x0 y1).bind fun v3 => ((idx x1 y1).bind fun v4 => (bif (v3 != v4) then (some (Sum.inr false)) else (qk n mo2 x0 x1 (IntKind.wrap .i64 (y1 + 1)))))) else (some (Sum.inl ())))
def ZP (n : Nat) (x0 : (List Int)) (x1 : (List Int)) : Option (Bool) :=
  (bif ((x0.length : Int) != (x1.length : Int)) then (some false) else ((qk n n x0 x1 0).bind fun o => match o with | .inl _ => (YG n) | .inr r => some r))
theorem Ql (n : Nat) (x0 : (List Int)) (x1 : (List Int)) (r : Bool) (H : ZP n x0 x1 = some r) : zK Tryz.prog 48 [.val false [.sl false 1 (CV.frzEs (x0.map zM))],.val false [.sl false 1 (CV.frzEs (x1.map zM))]] [.val false [.lit (.bool r)]] [] := by
 refine cW Tryz.func48 (fun g d => sl [g 0,sl [g 1] (cn 10 (sl [g 2] .ret) .skip),sl [g 3] (.block 0 (.loop (sl [sl [g 4] (cn 14 .skip (.exit 0)),.block 1 (sl [d 6] (cn 25 (sl [g 7] .ret) .skip))] (g 5)))),g 8] .ret) [.tmp 4] fun cx => ?_
 unfold ZP at H
 refine gA 1 3 0 ?_
 refine tS ?_
 refine rA 1 ?_
 refine kF x0 zM ?_
 refine lA 1 ?_
 refine kF x1 zM ?_
 refine uA 1 1027 0 ?_
 obtain ⟨h1,H⟩ | ⟨h1,H⟩ := bC H
 ·refine nA h1 ?_
  refine tK ?_
  refine tS ?_
  refine gA 1 35 0 ?_
  obtain ⟨o2,eo2,Ho2⟩ := bs H
  clear H
  refine Tr.mid (ι := Unit) (fun v => ⟨26,0,[],[]⟩) (fun v => YG n = some r) ?_ ?_
  ·refine tB ?_
   refine Tr.loop (ι := Nat × (Int)) (fun v => ⟨26,0,[sI 5 v.2,sC 0 (cF 1 x0 zM),sC 1 (cF 1 x1 zM)],[]⟩) (fun v => qk n v.1 x0 x1 v.2 = some o2) (fun v => v.1) (n,0) eo2 (St.sub_of [5,0,1] [] kr) ?_
   rintro ⟨mo2,y1⟩ H
   have H : qk n mo2 x0 x1 y1 = some o2 := H
   obtain _ | mo2 := mo2
   ·exact nN H
   rw [qk] at H
   refine tS ?_
   refine rA 2 ?_
   refine kF x0 zM ?_
   refine uA 1 16419 0 ?_
   obtain ⟨h2,H⟩ | ⟨h2,H⟩ := bC H
   ·refine nA h2 ?_
    refine Tr.exit ?_
    refine aJ ?_
    obtain rfl := si H
    have H := Ho2
    dsimp only at H
    exact jA () H [] []
   refine tA h2 ?_
   refine tK ?_
   refine tS ?_
   refine tB ?_
   obtain ⟨v3,ev3,H⟩ := bs H
   obtain ⟨v4,ev4,H⟩ := bs H
   refine Tr.draws mixed 9 kr ⟨26,0,[sB 25 (v3 != v4),sI 5 y1,sC 0 (cF 1 x0 zM),sC 1 (cF 1 x1 zM)],[]⟩ (fun cx => ?_) ?_
   ·refine aA [(0,[]),(1,[])] 7 [] fun cx => ?_
    refine aI tOk 2 30 0 17 18 19 none ⟨(.slot 17),[],0,false,1,(CV.frzEs (x0.map zM))⟩ y1 [.lit (.int .u8 v3)] _ kr kr kr kr kr kr rfl (Zi ev3) rfl (fun cx => ?_)
    refine aA [(3,[]),(4,[]),(5,[])] 3 [] fun cx => ?_
    refine aI tOk 6 30 0 21 22 23 none ⟨(.slot 21),[],0,false,1,(CV.frzEs (x1.map zM))⟩ y1 [.lit (.int .u8 v4)] _ kr kr kr kr kr kr rfl (Zi ev4) rfl (fun cx => ?_)
    refine aA [(7,[]),(8,[])] 0 [] fun cx => ?_
    exact eE [25,5,0,1] []
   refine sT ⟨26,0,[sB 25 (v3 != v4),sI 5 y1,sC 0 (cF 1 x0 zM),sC 1 (cF 1 x1 zM)],[]⟩ ?_
   cases h3 : (v3 != v4)
   ·have H := zH h3 H
    refine nB_ ?_
    refine tK ?_
    refine eA 3 35 0 ?_
    exact jB mo2 (IntKind.wrap .i64 (y1 + 1)) H [5,0,1] []
   have H := zI h3 H
   refine tB_ ?_
   refine gA 1 16 0 ?_
   refine te ?_
   obtain rfl := si H
   have H := Ho2
   dsimp only at H
   exact fF H
  rintro _ H
  have H : (YG n) = some r := H
  unfold YG at H
  refine gA 1 16 0 ?_
  exact te (fT H)
 refine tA h1 ?_
 refine gA 1 16 0 ?_
 exact te (fF H)
def ZH (n : Nat) (r2 : zA × Int × Frame) (r3 : zA × (List Out)) (r8 : Int × Bool) : Option (Bool) :=
  ((Qs n r3.1.F r8.1 r2.2.2.Src).bind fun r13 => (bif (decide (r13 ≥ 0)) then (some true) else (some ((r2.1.F.length : Int) == 12))))
def YP (n : Nat) (r2 : zA × Int × Frame) (r3 : zA × (List Out)) (r8 : Int × Bool) : Option (Bool) :=
  ((Qs n r3.1.F r8.1 r2.2.2.Dst).bind fun r12 => (bif (r2.2.2.Dst != 0) then (bif (decide (r12 ≥ 0)) then (bif (decide ((r3.2.length : Int) > 1)) then (some false) else (bif ((r3.2.length : Int) == 1) then ((idx r3.2 0).bind fun v14 => (bif (v14.Port != r12) then (some false) else (ZH n r2 r3 r8))) else (ZH n r2 r3 r8))) else (ZH n r2 r3 r8)) else (ZH n r2 r3 r8)))
def ZI (n : Nat) : Nat → zA × Int × Frame → zA × (List Out) → Int × Bool → Int → Int → Option ((Unit) ⊕ (Bool))
  | 0,_,_,_,_,_ => none
  | mo15 + 1,r2,r3,r8,r9,y11 => (bif (decide (y11 < (r3.2.length : Int))) then ((idx r3.2 y11).bind fun v16 => (bif (v16.Port == r2.2.1) then (some (Sum.inr false)) else ((qM n r9 v16.Port).bind fun r17 => (bif (!r17) then (some (Sum.inr false)) else ((qG n r2.1.V r8.1).bind fun r18 => ((qM n r18 v16.Port).bind fun r19 => (bif (!r19) then (some (Sum.inr false)) else ((qc n r2.1.V r8.1 v16.Port).bind fun r20 => (bif (v16.F.Tag != r20) then (some (Sum.inr false)) else (bif (v16.F.Dst != r2.2.2.Dst) then (some (Sum.inr false)) else (bif (v16.F.Src != r2.2.2.Src) then (some (Sum.inr false)) else ((ZP n v16.F.Data r2.2.2.Data).bind fun r21 => (bif (!r21) then (some (Sum.inr false)) else (bif (decide (y11 > 0)) then ((idx r3.2 (IntKind.wrap .i64 (y11 - 1))).bind fun v22 => (bif (decide (v22.Port ≥ v16.Port)) then (some (Sum.inr false)) else (ZI n mo15 r2 r3 r8 r9 (IntKind.wrap .i64 (y11 + 1))))) else (ZI n mo15 r2 r3 r8 r9 (IntKind.wrap .i64 (y11 + 1))))))))))))))))) else (some (Sum.inl ())))
def Zo (n : Nat) (r2 : zA × Int × Frame) (r3 : zA × (List Out)) (r8 : Int × Bool) (r9 : Int) (y10 : Bool) : Option (Bool) :=
  (bif y10 then (bif ((r3.2.length : Int) == 0) then (bif (r3.1.Dr == (IntKind.wrap .i64 (r2.1.Dr + 1))) then ((Ym n r3.1.F r2.1.F).bind fun r23 => (some r23)) else (some false)) else (some false)) else ((ZI n n r2 r3 r8 r9 0).bind fun o => match o with | .inl _ => (YP n r2 r3 r8) | .inr r => some r))
def zAT (n : Nat) (x0 : (List Int)) : Option (Bool) :=
  ((zCC n x0).bind fun r1 => (bif r1 then (some true) else ((YR n x0).bind fun r2 => ((Yj n r2.1 r2.2.1 r2.2.2).bind fun r3 => ((ZC n r2.1 r2.2.1 r2.2.2).bind fun r4 => ((Qt n r3.1 r4.1).bind fun r5 => (bif (!r5) then (some false) else ((YQ n r3.2 r4.2).bind fun r6 => (bif (!r6) then (some false) else ((Zj n r3.1).bind fun r7 => (bif (!r7) then (some false) else ((QW n r2.1.V r2.2.1 r2.2.2.Tag).bind fun r8 => ((Qh n r2.1.Id r2.1.Ps).bind fun r9 => (bif (!r8.2) then (Zo n r2 r3 r8 r9 true) else ((qM n r9 r2.2.1).bind fun r24 => (Zo n r2 r3 r8 r9 (!r24)))))))))))))))))
def zKp : Tab := ⟨80,[0,0,3,4,8,8,56,72,136,320,512,1536,512,6656,512,25088,33280,66048,163840,262144,262144,1835008,2359296,4456448,8650752,262144,33816576,262144,262144,470024192,553910272,1074003968,2684354560,4294967296,4294967296,30064771072,38654705664,73014444032,141733920768,4294967296,554050781184,1378684502016,2203318222848,4402341478400,8796093022208,8796093022208,61572651155456,79164837199872,0x880000000000,290271069732864,8796093022208,0x4080000000000,0xa080000000000,4512395720392704,9015995347763200,0x40000000000000,0x40000000000000,0x1c0000000000000,0x240000000000000,0x440000000000000,0x840000000000000,0x40000000000000,0x2040000000000000,0x5040000000000000,0x8040000000000000,0x10040000000000000,0x28000000000000000,0x40000000000000000,0xc0000000000000000,0x140000000000000000,0x200000000000000000,0x200000000000000000,0xa00000000000000000,0x1600000000000000000,0x2200000000000000000,0x4200000000000000000,0x200000000000000000,0x18200000000000000000,0x20240000000000000000,0x40040000000000000000],[0,0,3,4,8,8,56,72,136,256,512,1536,512,6656,512,25088,33280,66048,131072,262144,262144,1835008,2359296,4456448,8650752,262144,33816576,262144,262144,470024192,553910272,1074003968,2147483648,4294967296,4294967296,30064771072,38654705664,73014444032,141733920768,4294967296,554050781184,1378684502016,2203318222848,4398046511104,8796093022208,8796093022208,61572651155456,79164837199872,0x880000000000,290271069732864,8796093022208,0x4080000000000,0xa080000000000,4512395720392704,9007199254740992,0x40000000000000,0x40000000000000,0x1c0000000000000,0x240000000000000,0x440000000000000,0x840000000000000,0x40000000000000,0x2040000000000000,0x5040000000000000,0x8040000000000000,0x10040000000000000,0x20000000000000000,0x40000000000000000,0xc0000000000000000,0x140000000000000000,0x200000000000000000,0x200000000000000000,0xa00000000000000000,0x1600000000000000000,0x2200000000000000000,0x4200000000000000000,0x200000000000000000,0x18200000000000000000,0x20240000000000000000,0x40040000000000000000],[0,0,3,7,15,15,63,127,255,511,1023,2047,1023,8191,1023,32767,65535,131071,262143,524287,524287,2097151,4194303,8388607,16777215,524287,34078719,524287,524287,503840767,1073741823,2147483647,4294967295,8589934591,8589934591,34359738367,68719476735,137438953471,274877906943,8589934591,558345748479,2199023255551,4398046511103,8796093022207,0xfffffffffff,0xfffffffffff,70368744177663,0x7fffffffffff,0xffffffffffff,562949953421311,0xfffffffffff,0x40fffffffffff,0xfffffffffffff,9007199254740991,0x3fffffffffffff,0x7fffffffffffff,0x7fffffffffffff,0x1ffffffffffffff,0x3ffffffffffffff,0x7ffffffffffffff,0xfffffffffffffff,0x7fffffffffffff,0x207fffffffffffff,0x7fffffffffffffff,0xffffffffffffffff,0x1ffffffffffffffff,0x3ffffffffffffffff,0x7ffffffffffffffff,0xfffffffffffffffff,0x1fffffffffffffffff,0x3fffffffffffffffff,0x3fffffffffffffffff,0xbfffffffffffffffff,0x1ffffffffffffffffff,0x3ffffffffffffffffff,0x7ffffffffffffffffff,0x3fffffffffffffffff,0x1fffffffffffffffffff,0x3fffffffffffffffffff,0x7fffffffffffffffffff]⟩
theorem zD : z7 (rg Tryz.f6 16) zKp = true := kr
theorem zFq (n : Nat) (v16 : Out) (r2 : zA × Int × Frame) (y11 : Int) (r9 : Int) (r8 : Int × Bool) (r3 : zA × (List Out)) (r17 : Bool) (r18 : Int) (r19 : Bool) (r20 : Int) (r21 : Bool) (h13 : (v16.Port == r2.2.1) = false) (h14 : (!r17) = false) (er17 : (qM n r9 v16.Port) = some r17) (ev16 : (idx r3.2 y11) = some v16) (er18 : (qG n r2.1.V r8.1) = some r18) (er19 : (qM n r18 v16.Port) = some r19) (er20 : (qc n r2.1.V r8.1 v16.Port) = some r20) (er21 : (ZP n v16.F.Data r2.2.2.Data) = some r21) (h15 : (!r19) = false) (h16 : (v16.F.Tag != r20) = false) (h17 : (v16.F.Dst != r2.2.2.Dst) = false) (h18 : (v16.F.Src != r2.2.2.Src) = false) (h19 : (!r21) = false) (h20 : (decide (y11 > 0)) = false) (cx : Cx) : AT Tryz.prog cx (rg Tryz.f6 16) [] 80 [] ⟨228,0,[sI 14 v16.Port,sI 13 y11,sI 12 r9,sI 10 r8.1,sC 7 (cL 5 r3.2 Out.row),sA 6 6 11 0,sI 4 r2.2.1,sA 5 5 4 0,sA 3 3 11 0],[(6,(zA.row r3.1)),(5,(Frame.row r2.2.2)),(3,(zA.row r2.1))]⟩ (fun s => s = ⟨228,0,[sB 183 false,sI 13 y11,sI 12 r9,sI 10 r8.1,sC 7 (cL 5 r3.2 Out.row),sA 6 6 11 0,sI 4 r2.2.1,sA 5 5 4 0,sA 3 3 11 0],[(6,(zA.row r3.1)),(5,(Frame.row r2.2.2)),(3,(zA.row r2.1))]⟩) := by
 refine mA zD [(0,[]),(1,[]),(2,[]),(3,[])] 76 [] fun cx => ?_
 refine sA_ 0x8000000000000000000000074f8 104 ⟨228,0,[sB 107 (v16.Port == r2.2.1),sI 14 v16.Port,sI 13 y11,sI 12 r9,sI 10 r8.1,sC 7 (cL 5 r3.2 Out.row),sA 6 6 11 0,sI 4 r2.2.1,sA 5 5 4 0,sA 3 3 11 0],[(6,(zA.row r3.1)),(5,(Frame.row r2.2.2)),(3,(zA.row r2.1))]⟩ ?_
 rw [h13]
 refine mA zD [(4,[]),(5,[])] 74 [] fun cx => ?_
 refine mC zD 6 ?_
 refine vA [.rd,.rd] (ZM n r9 v16.Port r17 er17) ?_
 refine fA ?_
 refine mA zD [(7,[]),(8,[]),(9,[])] 70 [] fun cx => ?_
 refine sA_ 0x200000000000000000000000074f8 104 ⟨228,0,[sB 113 (!r17),sI 14 v16.Port,sI 13 y11,sI 12 r9,sI 10 r8.1,sC 7 (cL 5 r3.2 Out.row),sA 6 6 11 0,sI 4 r2.2.1,sA 5 5 4 0,sA 3 3 11 0],[(6,(zA.row r3.1)),(5,(Frame.row r2.2.2)),(3,(zA.row r2.1))]⟩ ?_
 rw [h14]
 refine mA zD [(10,[]),(11,[13,15,29,63]),(12,[]),(14,[])] 66 [⟨[13,15,29,63],39,114,115⟩] fun cx => ?_
 refine mC zD 13 ?_
 refine vB [.rd,.rd] [.box 3] (Z6 n r2.1.V r8.1 r18 er18) (.inr (zO (zF zL zP) zb)) ?_
 refine fA ?_
 refine mC zD 15 ?_
 refine vA [.rd,.rd] (ZM n r18 v16.Port r19 er19) ?_
 refine fA ?_
 refine mA zD [(16,[]),(17,[]),(18,[])] 61 [⟨[13,15,29,63],39,114,115⟩] fun cx => ?_
 refine sA_ 0x40c00000000000000000000000074f8 104 ⟨228,0,[sB 122 (!r19),sR 115 3 11 4 2 true,sA 114 3 11 4,sI 14 v16.Port,sI 13 y11,sI 12 r9,sI 10 r8.1,sC 7 (cL 5 r3.2 Out.row),sA 6 6 11 0,sI 4 r2.2.1,sA 5 5 4 0,sA 3 3 11 0],[(6,(zA.row r3.1)),(5,(Frame.row r2.2.2)),(3,(zA.row r2.1))]⟩ ?_
 rw [h15]
 refine mA zD [(19,[]),(20,[])] 59 [⟨[13,15,29,63],39,114,115⟩] fun cx => ?_
 refine oN zD 21 Out.row ev16 fun cx => ?_
 refine mA zD [(22,[]),(23,[]),(25,[]),(26,[29,63]),(27,[]),(28,[])] 52 [⟨[29,63],39,129,130⟩,⟨[13,15,29,63],39,114,115⟩] fun cx => ?_
 refine mB2 tOk zD 24 29 kr (And.intro kr ?_) (And.intro kr ?_)
 ·refine dE (tI 3) (.slot 7) [(0,(y11.toNat))] 5 3 [cL 5 r3.2 Out.row] (Out.row v16) (zQ rfl (zY ev16).2) ?_
  refine fA ?_
  refine mC zD 29 ?_
  refine vB [.rd,.rd,.rd] [.box 3] (qb n r2.1.V r8.1 v16.Port r20 er20) (.inr (zO (zF zL zP) zb)) ?_
  refine fA ?_
  refine mA zD [(30,[]),(31,[]),(32,[])] 47 [⟨[29,63],39,129,130⟩,⟨[13,15,29,63],39,114,115⟩] fun cx => ?_
  refine sA_ 0x106000c00000000000000000000000074f8 104 ⟨228,0,[sB 136 (v16.F.Tag != r20),sR 130 3 11 4 2 true,sA 129 3 11 4,sR 115 3 11 4 2 true,sA 114 3 11 4,sI 14 v16.Port,sI 13 y11,sI 12 r9,sI 10 r8.1,sC 7 (cL 5 r3.2 Out.row),sA 6 6 11 0,sI 4 r2.2.1,sA 5 5 4 0,sA 3 3 11 0],[(6,(zA.row r3.1)),(5,(Frame.row r2.2.2)),(3,(zA.row r2.1))]⟩ ?_
  rw [h16]
  refine mA zD [(33,[]),(34,[])] 45 [⟨[29,63],39,129,130⟩,⟨[13,15,29,63],39,114,115⟩] fun cx => ?_
  refine oN zD 35 Out.row ev16 fun cx => ?_
  refine mA zD [(36,[]),(37,[]),(39,[]),(40,[63])] 40 [⟨[63],3,143,144⟩,⟨[29,63],39,129,130⟩,⟨[13,15,29,63],39,114,115⟩] fun cx => ?_
  refine mC zD 38 ?_
  refine dE (tI 3) (.slot 7) [(0,(y11.toNat))] 5 1 [cL 5 r3.2 Out.row] (Out.row v16) (zQ rfl (zY ev16).2) ?_
  refine fA ?_
  refine mA zD [(41,[]),(42,[]),(43,[])] 36 [⟨[63],3,143,144⟩,⟨[29,63],39,129,130⟩,⟨[13,15,29,63],39,114,115⟩] fun cx => ?_
  refine sA_ 0x98006000c00000000000000000000000074f8 104 ⟨228,0,[sB 147 (v16.F.Dst != r2.2.2.Dst),sI 144 r2.2.2.Dst,sA 143 5 4 0,sR 130 3 11 4 2 true,sA 129 3 11 4,sR 115 3 11 4 2 true,sA 114 3 11 4,sI 14 v16.Port,sI 13 y11,sI 12 r9,sI 10 r8.1,sC 7 (cL 5 r3.2 Out.row),sA 6 6 11 0,sI 4 r2.2.1,sA 5 5 4 0,sA 3 3 11 0],[(6,(zA.row r3.1)),(5,(Frame.row r2.2.2)),(3,(zA.row r2.1))]⟩ ?_
  rw [h17]
  refine mA zD [(44,[]),(45,[])] 34 [⟨[63],3,143,144⟩,⟨[29,63],39,129,130⟩,⟨[13,15,29,63],39,114,115⟩] fun cx => ?_
  refine oN zD 46 Out.row ev16 fun cx => ?_
  refine mA zD [(47,[]),(48,[]),(50,[]),(51,[63])] 29 [⟨[63],3,154,155⟩,⟨[63],3,143,144⟩,⟨[29,63],39,129,130⟩,⟨[13,15,29,63],39,114,115⟩] fun cx => ?_
  refine mC zD 49 ?_
  refine dE (tI 3) (.slot 7) [(0,(y11.toNat))] 5 2 [cL 5 r3.2 Out.row] (Out.row v16) (zQ rfl (zY ev16).2) ?_
  refine fA ?_
  refine mA zD [(52,[]),(53,[]),(54,[])] 25 [⟨[63],3,154,155⟩,⟨[63],3,143,144⟩,⟨[29,63],39,129,130⟩,⟨[13,15,29,63],39,114,115⟩] fun cx => ?_
  refine sA_ 0x4c018006000c00000000000000000000000074f8 104 ⟨228,0,[sB 158 (v16.F.Src != r2.2.2.Src),sI 155 r2.2.2.Src,sA 154 5 4 1,sI 144 r2.2.2.Dst,sA 143 5 4 0,sR 130 3 11 4 2 true,sA 129 3 11 4,sR 115 3 11 4 2 true,sA 114 3 11 4,sI 14 v16.Port,sI 13 y11,sI 12 r9,sI 10 r8.1,sC 7 (cL 5 r3.2 Out.row),sA 6 6 11 0,sI 4 r2.2.1,sA 5 5 4 0,sA 3 3 11 0],[(6,(zA.row r3.1)),(5,(Frame.row r2.2.2)),(3,(zA.row r2.1))]⟩ ?_
  rw [h18]
  refine mA zD [(55,[]),(56,[])] 23 [⟨[63],3,154,155⟩,⟨[63],3,143,144⟩,⟨[29,63],39,129,130⟩,⟨[13,15,29,63],39,114,115⟩] fun cx => ?_
  refine oN zD 57 Out.row ev16 fun cx => ?_
  refine mA zD [(58,[]),(59,[]),(61,[]),(62,[63])] 18 [⟨[63],30,165,166⟩,⟨[63],3,154,155⟩,⟨[63],3,143,144⟩,⟨[29,63],39,129,130⟩,⟨[13,15,29,63],39,114,115⟩] fun cx => ?_
  refine mC zD 60 ?_
  refine dE (tI 30) (.slot 7) [(0,(y11.toNat))] 5 4 [cL 5 r3.2 Out.row] (Out.row v16) (zQ rfl (zY ev16).2) ?_
  refine fA ?_
  refine mC zD 63 ?_
  refine LAt.callO tOk [.rd,.rd] (f := 48) (av := #[.tmp 164,.tmp 166]) (ats := #[30,30]) (d := (some 167)) (ty := 4) (g := (some (54,false))) [(164,Out.row v16)] none kr kr kr [.slot 7,.box 5] (Ql n v16.F.Data r2.2.2.Data r21 er21) (zAt (row := [cL 5 r3.2 Out.row]) (q := [(0,(y11.toNat))]) kr (zQ rfl (zY ev16).2) zBi) kr zBh (.inr (And.intro (zO (zF zL zP) zb) zAu)) ?_
  refine fA ?_
  refine mA zD [(64,[]),(65,[]),(66,[])] 13 [⟨[63],30,165,166⟩,⟨[63],3,154,155⟩,⟨[63],3,143,144⟩,⟨[29,63],39,129,130⟩,⟨[13,15,29,63],39,114,115⟩] fun cx => ?_
  refine sA_ 0x4600c018006000c00000000000000000000000074f8 104 ⟨228,0,[sB 170 (!r21),sR 166 5 4 3 1 false,sA 165 5 4 3,sI 155 r2.2.2.Src,sA 154 5 4 1,sI 144 r2.2.2.Dst,sA 143 5 4 0,sR 130 3 11 4 2 true,sA 129 3 11 4,sR 115 3 11 4 2 true,sA 114 3 11 4,sI 14 v16.Port,sI 13 y11,sI 12 r9,sI 10 r8.1,sC 7 (cL 5 r3.2 Out.row),sA 6 6 11 0,sI 4 r2.2.1,sA 5 5 4 0,sA 3 3 11 0],[(6,(zA.row r3.1)),(5,(Frame.row r2.2.2)),(3,(zA.row r2.1))]⟩ ?_
  rw [h19]
  refine mA zD [(67,[]),(68,[]),(69,[])] 10 [⟨[63],30,165,166⟩,⟨[63],3,154,155⟩,⟨[63],3,143,144⟩,⟨[29,63],39,129,130⟩,⟨[13,15,29,63],39,114,115⟩] fun cx => ?_
  refine sA_ 0x24600c018006000c00000000000000000000000074f8 104 ⟨228,0,[sB 173 (decide (y11 > 0)),sB 170 false,sR 166 5 4 3 1 false,sA 165 5 4 3,sI 155 r2.2.2.Src,sA 154 5 4 1,sI 144 r2.2.2.Dst,sA 143 5 4 0,sR 130 3 11 4 2 true,sA 129 3 11 4,sR 115 3 11 4 2 true,sA 114 3 11 4,sI 14 v16.Port,sI 13 y11,sI 12 r9,sI 10 r8.1,sC 7 (cL 5 r3.2 Out.row),sA 6 6 11 0,sI 4 r2.2.1,sA 5 5 4 0,sA 3 3 11 0],[(6,(zA.row r3.1)),(5,(Frame.row r2.2.2)),(3,(zA.row r2.1))]⟩ ?_
  rw [h20]
  refine mA zD [(70,[]),(71,[]),(72,[]),(73,[]),(74,[]),(75,[]),(76,[]),(77,[]),(78,[]),(79,[])] 0 [⟨[63],30,165,166⟩,⟨[63],3,154,155⟩,⟨[63],3,143,144⟩,⟨[29,63],39,129,130⟩,⟨[13,15,29,63],39,114,115⟩] fun cx => ?_
  exact mE zD [183,13,12,10,7,6,4,5,3] [6,5,3]
 ·refine vB [.rd,.rd,.rd] [.box 3] (qb n r2.1.V r8.1 v16.Port r20 er20) (.inr (zO (zF zL zP) zb)) ?_
  refine fA ?_
  refine mC zD 24 ?_
  refine dE (tI 3) (.slot 7) [(0,(y11.toNat))] 5 3 [cL 5 r3.2 Out.row] (Out.row v16) (zQ rfl (zY ev16).2) ?_
  refine fA ?_
  refine mA zD [(30,[]),(31,[]),(32,[])] 47 [⟨[29,63],39,129,130⟩,⟨[13,15,29,63],39,114,115⟩] fun cx => ?_
  refine sA_ 0x106000c00000000000000000000000074f8 104 ⟨228,0,[sB 136 (v16.F.Tag != r20),sR 130 3 11 4 2 true,sA 129 3 11 4,sR 115 3 11 4 2 true,sA 114 3 11 4,sI 14 v16.Port,sI 13 y11,sI 12 r9,sI 10 r8.1,sC 7 (cL 5 r3.2 Out.row),sA 6 6 11 0,sI 4 r2.2.1,sA 5 5 4 0,sA 3 3 11 0],[(6,(zA.row r3.1)),(5,(Frame.row r2.2.2)),(3,(zA.row r2.1))]⟩ ?_
  rw [h16]
  refine mA zD [(33,[]),(34,[])] 45 [⟨[29,63],39,129,130⟩,⟨[13,15,29,63],39,114,115⟩] fun cx => ?_
  refine oN zD 35 Out.row ev16 fun cx => ?_
  refine mA zD [(36,[]),(37,[]),(39,[]),(40,[63])] 40 [⟨[63],3,143,144⟩,⟨[29,63],39,129,130⟩,⟨[13,15,29,63],39,114,115⟩] fun cx => ?_
  refine mC zD 38 ?_
  refine dE (tI 3) (.slot 7) [(0,(y11.toNat))] 5 1 [cL 5 r3.2 Out.row] (Out.row v16) (zQ rfl (zY ev16).2) ?_
  refine fA ?_
  refine mA zD [(41,[]),(42,[]),(43,[])] 36 [⟨[63],3,143,144⟩,⟨[29,63],39,129,130⟩,⟨[13,15,29,63],39,114,115⟩] fun cx => ?_
  refine sA_ 0x98006000c00000000000000000000000074f8 104 ⟨228,0,[sB 147 (v16.F.Dst != r2.2.2.Dst),sI 144 r2.2.2.Dst,sA 143 5 4 0,sR 130 3 11 4 2 true,sA 129 3 11 4,sR 115 3 11 4 2 true,sA 114 3 11 4,sI 14 v16.Port,sI 13 y11,sI 12 r9,sI 10 r8.1,sC 7 (cL 5 r3.2 Out.row),sA 6 6 11 0,sI 4 r2.2.1,sA 5 5 4 0,sA 3 3 11 0],[(6,(zA.row r3.1)),(5,(Frame.row r2.2.2)),(3,(zA.row r2.1))]⟩ ?_
  rw [h17]
  refine mA zD [(44,[]),(45,[])] 34 [⟨[63],3,143,144⟩,⟨[29,63],39,129,130⟩,⟨[13,15,29,63],39,114,115⟩] fun cx => ?_
  refine oN zD 46 Out.row ev16 fun cx => ?_
  refine mA zD [(47,[]),(48,[]),(50,[]),(51,[63])] 29 [⟨[63],3,154,155⟩,⟨[63],3,143,144⟩,⟨[29,63],39,129,130⟩,⟨[13,15,29,63],39,114,115⟩] fun cx => ?_
  refine mC zD 49 ?_
  refine dE (tI 3) (.slot 7) [(0,(y11.toNat))] 5 2 [cL 5 r3.2 Out.row] (Out.row v16) (zQ rfl (zY ev16).2) ?_
  refine fA ?_
  refine mA zD [(52,[]),(53,[]),(54,[])] 25 [⟨[63],3,154,155⟩,⟨[63],3,143,144⟩,⟨[29,63],39,129,130⟩,⟨[13,15,29,63],39,114,115⟩] fun cx => ?_
  refine sA_ 0x4c018006000c00000000000000000000000074f8 104 ⟨228,0,[sB 158 (v16.F.Src != r2.2.2.Src),sI 155 r2.2.2.Src,sA 154 5 4 1,sI 144 r2.2.2.Dst,sA 143 5 4 0,sR 130 3 11 4 2 true,sA 129 3 11 4,sR 115 3 11 4 2 true,sA 114 3 11 4,sI 14 v16.Port,sI 13 y11,sI 12 r9,sI 10 r8.1,sC 7 (cL 5 r3.2 Out.row),sA 6 6 11 0,sI 4 r2.2.1,sA 5 5 4 0,sA 3 3 11 0],[(6,(zA.row r3.1)),(5,(Frame.row r2.2.2)),(3,(zA.row r2.1))]⟩ ?_
  rw [h18]
  refine mA zD [(55,[]),(56,[])] 23 [⟨[63],3,154,155⟩,⟨[63],3,143,144⟩,⟨[29,63],39,129,130⟩,⟨[13,15,29,63],39,114,115⟩] fun cx => ?_
  refine oN zD 57 Out.row ev16 fun cx => ?_
  refine mA zD [(58,[]),(59,[]),(61,[]),(62,[63])] 18 [⟨[63],30,165,166⟩,⟨[63],3,154,155⟩,⟨[63],3,143,144⟩,⟨[29,63],39,129,130⟩,⟨[13,15,29,63],39,114,115⟩] fun cx => ?_
  refine mC zD 60 ?_
  refine dE (tI 30) (.slot 7) [(0,(y11.toNat))] 5 4 [cL 5 r3.2 Out.row] (Out.row v16) (zQ rfl (zY ev16).2) ?_
  refine fA ?_
  refine mC zD 63 ?_
  refine LAt.callO tOk [.rd,.rd] (f := 48) (av := #[.tmp 164,.tmp 166]) (ats := #[30,30]) (d := (some 167)) (ty := 4) (g := (some (54,false))) [(164,Out.row v16)] none kr kr kr [.slot 7,.box 5] (Ql n v16.F.Data r2.2.2.Data r21 er21) (zAt (row := [cL 5 r3.2 Out.row]) (q := [(0,(y11.toNat))]) kr (zQ rfl (zY ev16).2) zBi) kr zBh (.inr (And.intro (zO (zF zL zP) zb) zAu)) ?_
  refine fA ?_
  refine mA zD [(64,[]),(65,[]),(66,[])] 13 [⟨[63],30,165,166⟩,⟨[63],3,154,155⟩,⟨[63],3,143,144⟩,⟨[29,63],39,129,130⟩,⟨[13,15,29,63],39,114,115⟩] fun cx => ?_
  refine sA_ 0x4600c018006000c00000000000000000000000074f8 104 ⟨228,0,[sB 170 (!r21),sR 166 5 4 3 1 false,sA 165 5 4 3,sI 155 r2.2.2.Src,sA 154 5 4 1,sI 144 r2.2.2.Dst,sA 143 5 4 0,sR 130 3 11 4 2 true,sA 129 3 11 4,sR 115 3 11 4 2 true,sA 114 3 11 4,sI 14 v16.Port,sI 13 y11,sI 12 r9,sI 10 r8.1,sC 7 (cL 5 r3.2 Out.row),sA 6 6 11 0,sI 4 r2.2.1,sA 5 5 4 0,sA 3 3 11 0],[(6,(zA.row r3.1)),(5,(Frame.row r2.2.2)),(3,(zA.row r2.1))]⟩ ?_
  rw [h19]
  refine mA zD [(67,[]),(68,[]),(69,[])] 10 [⟨[63],30,165,166⟩,⟨[63],3,154,155⟩,⟨[63],3,143,144⟩,⟨[29,63],39,129,130⟩,⟨[13,15,29,63],39,114,115⟩] fun cx => ?_
  refine sA_ 0x24600c018006000c00000000000000000000000074f8 104 ⟨228,0,[sB 173 (decide (y11 > 0)),sB 170 false,sR 166 5 4 3 1 false,sA 165 5 4 3,sI 155 r2.2.2.Src,sA 154 5 4 1,sI 144 r2.2.2.Dst,sA 143 5 4 0,sR 130 3 11 4 2 true,sA 129 3 11 4,sR 115 3 11 4 2 true,sA 114 3 11 4,sI 14 v16.Port,sI 13 y11,sI 12 r9,sI 10 r8.1,sC 7 (cL 5 r3.2 Out.row),sA 6 6 11 0,sI 4 r2.2.1,sA 5 5 4 0,sA 3 3 11 0],[(6,(zA.row r3.1)),(5,(Frame.row r2.2.2)),(3,(zA.row r2.1))]⟩ ?_
  rw [h20]
  refine mA zD [(70,[]),(71,[]),(72,[]),(73,[]),(74,[]),(75,[]),(76,[]),(77,[]),(78,[]),(79,[])] 0 [⟨[63],30,165,166⟩,⟨[63],3,154,155⟩,⟨[63],3,143,144⟩,⟨[29,63],39,129,130⟩,⟨[13,15,29,63],39,114,115⟩] fun cx => ?_
  exact mE zD [183,13,12,10,7,6,4,5,3] [6,5,3]
theorem zFr (n : Nat) (v16 : Out) (r2 : zA × Int × Frame) (y11 : Int) (r9 : Int) (r8 : Int × Bool) (r3 : zA × (List Out)) (r17 : Bool) (r18 : Int) (r19 : Bool) (r20 : Int) (r21 : Bool) (v22 : Out) (h13 : (v16.Port == r2.2.1) = false) (h14 : (!r17) = false) (er17 : (qM n r9 v16.Port) = some r17) (ev16 : (idx r3.2 y11) = some v16) (er18 : (qG n r2.1.V r8.1) = some r18) (er19 : (qM n r18 v16.Port) = some r19) (er20 : (qc n r2.1.V r8.1 v16.Port) = some r20) (er21 : (ZP n v16.F.Data r2.2.2.Data) = some r21) (h15 : (!r19) = false) (h16 : (v16.F.Tag != r20) = false) (h17 : (v16.F.Dst != r2.2.2.Dst) = false) (h18 : (v16.F.Src != r2.2.2.Src) = false) (h19 : (!r21) = false) (h20 : (decide (y11 > 0)) = true) (ev22 : (idx r3.2 (IntKind.wrap .i64 (y11 - 1))) = some v22) (cx : Cx) : AT Tryz.prog cx (rg Tryz.f6 16) [] 80 [] ⟨228,0,[sI 14 v16.Port,sI 13 y11,sI 12 r9,sI 10 r8.1,sC 7 (cL 5 r3.2 Out.row),sA 6 6 11 0,sI 4 r2.2.1,sA 5 5 4 0,sA 3 3 11 0],[(6,(zA.row r3.1)),(5,(Frame.row r2.2.2)),(3,(zA.row r2.1))]⟩ (fun s => s = ⟨228,0,[sB 183 (decide (v22.Port ≥ v16.Port)),sI 13 y11,sI 12 r9,sI 10 r8.1,sC 7 (cL 5 r3.2 Out.row),sA 6 6 11 0,sI 4 r2.2.1,sA 5 5 4 0,sA 3 3 11 0],[(6,(zA.row r3.1)),(5,(Frame.row r2.2.2)),(3,(zA.row r2.1))]⟩) := by
 refine mA zD [(0,[]),(1,[]),(2,[]),(3,[])] 76 [] fun cx => ?_
 refine sA_ 0x8000000000000000000000074f8 104 ⟨228,0,[sB 107 (v16.Port == r2.2.1),sI 14 v16.Port,sI 13 y11,sI 12 r9,sI 10 r8.1,sC 7 (cL 5 r3.2 Out.row),sA 6 6 11 0,sI 4 r2.2.1,sA 5 5 4 0,sA 3 3 11 0],[(6,(zA.row r3.1)),(5,(Frame.row r2.2.2)),(3,(zA.row r2.1))]⟩ ?_
 rw [h13]
 refine mA zD [(4,[]),(5,[])] 74 [] fun cx => ?_
 refine mC zD 6 ?_
 refine vA [.rd,.rd] (ZM n r9 v16.Port r17 er17) ?_
 refine fA ?_
 refine mA zD [(7,[]),(8,[]),(9,[])] 70 [] fun cx => ?_
 refine sA_ 0x200000000000000000000000074f8 104 ⟨228,0,[sB 113 (!r17),sI 14 v16.Port,sI 13 y11,sI 12 r9,sI 10 r8.1,sC 7 (cL 5 r3.2 Out.row),sA 6 6 11 0,sI 4 r2.2.1,sA 5 5 4 0,sA 3 3 11 0],[(6,(zA.row r3.1)),(5,(Frame.row r2.2.2)),(3,(zA.row r2.1))]⟩ ?_
 rw [h14]
 refine mA zD [(10,[]),(11,[13,15,29,63]),(12,[]),(14,[])] 66 [⟨[13,15,29,63],39,114,115⟩] fun cx => ?_
 refine mC zD 13 ?_
 refine vB [.rd,.rd] [.box 3] (Z6 n r2.1.V r8.1 r18 er18) (.inr (zO (zF zL zP) zb)) ?_
 refine fA ?_
 refine mC zD 15 ?_
 refine vA [.rd,.rd] (ZM n r18 v16.Port r19 er19) ?_
 refine fA ?_
 refine mA zD [(16,[]),(17,[]),(18,[])] 61 [⟨[13,15,29,63],39,114,115⟩] fun cx => ?_
 refine sA_ 0x40c00000000000000000000000074f8 104 ⟨228,0,[sB 122 (!r19),sR 115 3 11 4 2 true,sA 114 3 11 4,sI 14 v16.Port,sI 13 y11,sI 12 r9,sI 10 r8.1,sC 7 (cL 5 r3.2 Out.row),sA 6 6 11 0,sI 4 r2.2.1,sA 5 5 4 0,sA 3 3 11 0],[(6,(zA.row r3.1)),(5,(Frame.row r2.2.2)),(3,(zA.row r2.1))]⟩ ?_
 rw [h15]
 refine mA zD [(19,[]),(20,[])] 59 [⟨[13,15,29,63],39,114,115⟩] fun cx => ?_
 refine oN zD 21 Out.row ev16 fun cx => ?_
 refine mA zD [(22,[]),(23,[]),(25,[]),(26,[29,63]),(27,[]),(28,[])] 52 [⟨[29,63],39,129,130⟩,⟨[13,15,29,63],39,114,115⟩] fun cx => ?_
 refine mB2 tOk zD 24 29 kr (And.intro kr ?_) (And.intro kr ?_)
 ·refine dE (tI 3) (.slot 7) [(0,(y11.toNat))] 5 3 [cL 5 r3.2 Out.row] (Out.row v16) (zQ rfl (zY ev16).2) ?_
  refine fA ?_
  refine mC zD 29 ?_
  refine vB [.rd,.rd,.rd] [.box 3] (qb n r2.1.V r8.1 v16.Port r20 er20) (.inr (zO (zF zL zP) zb)) ?_
  refine fA ?_
  refine mA zD [(30,[]),(31,[]),(32,[])] 47 [⟨[29,63],39,129,130⟩,⟨[13,15,29,63],39,114,115⟩] fun cx => ?_
  refine sA_ 0x106000c00000000000000000000000074f8 104 ⟨228,0,[sB 136 (v16.F.Tag != r20),sR 130 3 11 4 2 true,sA 129 3 11 4,sR 115 3 11 4 2 true,sA 114 3 11 4,sI 14 v16.Port,sI 13 y11,sI 12 r9,sI 10 r8.1,sC 7 (cL 5 r3.2 Out.row),sA 6 6 11 0,sI 4 r2.2.1,sA 5 5 4 0,sA 3 3 11 0],[(6,(zA.row r3.1)),(5,(Frame.row r2.2.2)),(3,(zA.row r2.1))]⟩ ?_
  rw [h16]
  refine mA zD [(33,[]),(34,[])] 45 [⟨[29,63],39,129,130⟩,⟨[13,15,29,63],39,114,115⟩] fun cx => ?_
  refine oN zD 35 Out.row ev16 fun cx => ?_
  refine mA zD [(36,[]),(37,[]),(39,[]),(40,[63])] 40 [⟨[63],3,143,144⟩,⟨[29,63],39,129,130⟩,⟨[13,15,29,63],39,114,115⟩] fun cx => ?_
  refine mC zD 38 ?_
  refine dE (tI 3) (.slot 7) [(0,(y11.toNat))] 5 1 [cL 5 r3.2 Out.row] (Out.row v16) (zQ rfl (zY ev16).2) ?_
  refine fA ?_
  refine mA zD [(41,[]),(42,[]),(43,[])] 36 [⟨[63],3,143,144⟩,⟨[29,63],39,129,130⟩,⟨[13,15,29,63],39,114,115⟩] fun cx => ?_
  refine sA_ 0x98006000c00000000000000000000000074f8 104 ⟨228,0,[sB 147 (v16.F.Dst != r2.2.2.Dst),sI 144 r2.2.2.Dst,sA 143 5 4 0,sR 130 3 11 4 2 true,sA 129 3 11 4,sR 115 3 11 4 2 true,sA 114 3 11 4,sI 14 v16.Port,sI 13 y11,sI 12 r9,sI 10 r8.1,sC 7 (cL 5 r3.2 Out.row),sA 6 6 11 0,sI 4 r2.2.1,sA 5 5 4 0,sA 3 3 11 0],[(6,(zA.row r3.1)),(5,(Frame.row r2.2.2)),(3,(zA.row r2.1))]⟩ ?_
  rw [h17]
  refine mA zD [(44,[]),(45,[])] 34 [⟨[63],3,143,144⟩,⟨[29,63],39,129,130⟩,⟨[13,15,29,63],39,114,115⟩] fun cx => ?_
  refine oN zD 46 Out.row ev16 fun cx => ?_
  refine mA zD [(47,[]),(48,[]),(50,[]),(51,[63])] 29 [⟨[63],3,154,155⟩,⟨[63],3,143,144⟩,⟨[29,63],39,129,130⟩,⟨[13,15,29,63],39,114,115⟩] fun cx => ?_
  refine mC zD 49 ?_
  refine dE (tI 3) (.slot 7) [(0,(y11.toNat))] 5 2 [cL 5 r3.2 Out.row] (Out.row v16) (zQ rfl (zY ev16).2) ?_
  refine fA ?_
  refine mA zD [(52,[]),(53,[]),(54,[])] 25 [⟨[63],3,154,155⟩,⟨[63],3,143,144⟩,⟨[29,63],39,129,130⟩,⟨[13,15,29,63],39,114,115⟩] fun cx => ?_
  refine sA_ 0x4c018006000c00000000000000000000000074f8 104 ⟨228,0,[sB 158 (v16.F.Src != r2.2.2.Src),sI 155 r2.2.2.Src,sA 154 5 4 1,sI 144 r2.2.2.Dst,sA 143 5 4 0,sR 130 3 11 4 2 true,sA 129 3 11 4,sR 115 3 11 4 2 true,sA 114 3 11 4,sI 14 v16.Port,sI 13 y11,sI 12 r9,sI 10 r8.1,sC 7 (cL 5 r3.2 Out.row),sA 6 6 11 0,sI 4 r2.2.1,sA 5 5 4 0,sA 3 3 11 0],[(6,(zA.row r3.1)),(5,(Frame.row r2.2.2)),(3,(zA.row r2.1))]⟩ ?_
  rw [h18]
  refine mA zD [(55,[]),(56,[])] 23 [⟨[63],3,154,155⟩,⟨[63],3,143,144⟩,⟨[29,63],39,129,130⟩,⟨[13,15,29,63],39,114,115⟩] fun cx => ?_
  refine oN zD 57 Out.row ev16 fun cx => ?_
  refine mA zD [(58,[]),(59,[]),(61,[]),(62,[63])] 18 [⟨[63],30,165,166⟩,⟨[63],3,154,155⟩,⟨[63],3,143,144⟩,⟨[29,63],39,129,130⟩,⟨[13,15,29,63],39,114,115⟩] fun cx => ?_
  refine mC zD 60 ?_
  refine dE (tI 30) (.slot 7) [(0,(y11.toNat))] 5 4 [cL 5 r3.2 Out.row] (Out.row v16) (zQ rfl (zY ev16).2) ?_
  refine fA ?_
  refine mC zD 63 ?_
  refine LAt.callO tOk [.rd,.rd] (f := 48) (av := #[.tmp 164,.tmp 166]) (ats := #[30,30]) (d := (some 167)) (ty := 4) (g := (some (54,false))) [(164,Out.row v16)] none kr kr kr [.slot 7,.box 5] (Ql n v16.F.Data r2.2.2.Data r21 er21) (zAt (row := [cL 5 r3.2 Out.row]) (q := [(0,(y11.toNat))]) kr (zQ rfl (zY ev16).2) zBi) kr zBh (.inr (And.intro (zO (zF zL zP) zb) zAu)) ?_
  refine fA ?_
  refine mA zD [(64,[]),(65,[]),(66,[])] 13 [⟨[63],30,165,166⟩,⟨[63],3,154,155⟩,⟨[63],3,143,144⟩,⟨[29,63],39,129,130⟩,⟨[13,15,29,63],39,114,115⟩] fun cx => ?_
  refine sA_ 0x4600c018006000c00000000000000000000000074f8 104 ⟨228,0,[sB 170 (!r21),sR 166 5 4 3 1 false,sA 165 5 4 3,sI 155 r2.2.2.Src,sA 154 5 4 1,sI 144 r2.2.2.Dst,sA 143 5 4 0,sR 130 3 11 4 2 true,sA 129 3 11 4,sR 115 3 11 4 2 true,sA 114 3 11 4,sI 14 v16.Port,sI 13 y11,sI 12 r9,sI 10 r8.1,sC 7 (cL 5 r3.2 Out.row),sA 6 6 11 0,sI 4 r2.2.1,sA 5 5 4 0,sA 3 3 11 0],[(6,(zA.row r3.1)),(5,(Frame.row r2.2.2)),(3,(zA.row r2.1))]⟩ ?_
  rw [h19]
  refine mA zD [(67,[]),(68,[]),(69,[])] 10 [⟨[63],30,165,166⟩,⟨[63],3,154,155⟩,⟨[63],3,143,144⟩,⟨[29,63],39,129,130⟩,⟨[13,15,29,63],39,114,115⟩] fun cx => ?_
  refine sA_ 0x24600c018006000c00000000000000000000000074f8 104 ⟨228,0,[sB 173 (decide (y11 > 0)),sB 170 false,sR 166 5 4 3 1 false,sA 165 5 4 3,sI 155 r2.2.2.Src,sA 154 5 4 1,sI 144 r2.2.2.Dst,sA 143 5 4 0,sR 130 3 11 4 2 true,sA 129 3 11 4,sR 115 3 11 4 2 true,sA 114 3 11 4,sI 14 v16.Port,sI 13 y11,sI 12 r9,sI 10 r8.1,sC 7 (cL 5 r3.2 Out.row),sA 6 6 11 0,sI 4 r2.2.1,sA 5 5 4 0,sA 3 3 11 0],[(6,(zA.row r3.1)),(5,(Frame.row r2.2.2)),(3,(zA.row r2.1))]⟩ ?_
  rw [h20]
  refine mA zD [(70,[]),(71,[]),(72,[])] 7 [⟨[63],30,165,166⟩,⟨[63],3,154,155⟩,⟨[63],3,143,144⟩,⟨[29,63],39,129,130⟩,⟨[13,15,29,63],39,114,115⟩] fun cx => ?_
  refine oN zD 73 Out.row ev22 fun cx => ?_
  refine mA zD [(74,[]),(76,[])] 4 [⟨[63],30,165,166⟩,⟨[63],3,154,155⟩,⟨[63],3,143,144⟩,⟨[29,63],39,129,130⟩,⟨[13,15,29,63],39,114,115⟩] fun cx => ?_
  refine mC zD 75 ?_
  refine dE (tI 3) (.slot 7) [(0,((IntKind.wrap .i64 (y11 - 1)).toNat))] 5 0 [cL 5 r3.2 Out.row] (Out.row v22) (zQ rfl (zY ev22).2) ?_
  refine fA ?_
  refine mA zD [(77,[]),(78,[]),(79,[])] 0 [⟨[63],30,165,166⟩,⟨[63],3,154,155⟩,⟨[63],3,143,144⟩,⟨[29,63],39,129,130⟩,⟨[13,15,29,63],39,114,115⟩] fun cx => ?_
  exact mE zD [183,13,12,10,7,6,4,5,3] [6,5,3]
 ·refine vB [.rd,.rd,.rd] [.box 3] (qb n r2.1.V r8.1 v16.Port r20 er20) (.inr (zO (zF zL zP) zb)) ?_
  refine fA ?_
  refine mC zD 24 ?_
  refine dE (tI 3) (.slot 7) [(0,(y11.toNat))] 5 3 [cL 5 r3.2 Out.row] (Out.row v16) (zQ rfl (zY ev16).2) ?_
  refine fA ?_
  refine mA zD [(30,[]),(31,[]),(32,[])] 47 [⟨[29,63],39,129,130⟩,⟨[13,15,29,63],39,114,115⟩] fun cx => ?_
  refine sA_ 0x106000c00000000000000000000000074f8 104 ⟨228,0,[sB 136 (v16.F.Tag != r20),sR 130 3 11 4 2 true,sA 129 3 11 4,sR 115 3 11 4 2 true,sA 114 3 11 4,sI 14 v16.Port,sI 13 y11,sI 12 r9,sI 10 r8.1,sC 7 (cL 5 r3.2 Out.row),sA 6 6 11 0,sI 4 r2.2.1,sA 5 5 4 0,sA 3 3 11 0],[(6,(zA.row r3.1)),(5,(Frame.row r2.2.2)),(3,(zA.row r2.1))]⟩ ?_
  rw [h16]
  refine mA zD [(33,[]),(34,[])] 45 [⟨[29,63],39,129,130⟩,⟨[13,15,29,63],39,114,115⟩] fun cx => ?_
  refine oN zD 35 Out.row ev16 fun cx => ?_
  refine mA zD [(36,[]),(37,[]),(39,[]),(40,[63])] 40 [⟨[63],3,143,144⟩,⟨[29,63],39,129,130⟩,⟨[13,15,29,63],39,114,115⟩] fun cx => ?_
  refine mC zD 38 ?_
  refine dE (tI 3) (.slot 7) [(0,(y11.toNat))] 5 1 [cL 5 r3.2 Out.row] (Out.row v16) (zQ rfl (zY ev16).2) ?_
  refine fA ?_
  refine mA zD [(41,[]),(42,[]),(43,[])] 36 [⟨[63],3,143,144⟩,⟨[29,63],39,129,130⟩,⟨[13,15,29,63],39,114,115⟩] fun cx => ?_
  refine sA_ 0x98006000c00000000000000000000000074f8 104 ⟨228,0,[sB 147 (v16.F.Dst != r2.2.2.Dst),sI 144 r2.2.2.Dst,sA 143 5 4 0,sR 130 3 11 4 2 true,sA 129 3 11 4,sR 115 3 11 4 2 true,sA 114 3 11 4,sI 14 v16.Port,sI 13 y11,sI 12 r9,sI 10 r8.1,sC 7 (cL 5 r3.2 Out.row),sA 6 6 11 0,sI 4 r2.2.1,sA 5 5 4 0,sA 3 3 11 0],[(6,(zA.row r3.1)),(5,(Frame.row r2.2.2)),(3,(zA.row r2.1))]⟩ ?_
  rw [h17]
  refine mA zD [(44,[]),(45,[])] 34 [⟨[63],3,143,144⟩,⟨[29,63],39,129,130⟩,⟨[13,15,29,63],39,114,115⟩] fun cx => ?_
  refine oN zD 46 Out.row ev16 fun cx => ?_
  refine mA zD [(47,[]),(48,[]),(50,[]),(51,[63])] 29 [⟨[63],3,154,155⟩,⟨[63],3,143,144⟩,⟨[29,63],39,129,130⟩,⟨[13,15,29,63],39,114,115⟩] fun cx => ?_
  refine mC zD 49 ?_
  refine dE (tI 3) (.slot 7) [(0,(y11.toNat))] 5 2 [cL 5 r3.2 Out.row] (Out.row v16) (zQ rfl (zY ev16).2) ?_
  refine fA ?_
  refine mA zD [(52,[]),(53,[]),(54,[])] 25 [⟨[63],3,154,155⟩,⟨[63],3,143,144⟩,⟨[29,63],39,129,130⟩,⟨[13,15,29,63],39,114,115⟩] fun cx => ?_
  refine sA_ 0x4c018006000c00000000000000000000000074f8 104 ⟨228,0,[sB 158 (v16.F.Src != r2.2.2.Src),sI 155 r2.2.2.Src,sA 154 5 4 1,sI 144 r2.2.2.Dst,sA 143 5 4 0,sR 130 3 11 4 2 true,sA 129 3 11 4,sR 115 3 11 4 2 true,sA 114 3 11 4,sI 14 v16.Port,sI 13 y11,sI 12 r9,sI 10 r8.1,sC 7 (cL 5 r3.2 Out.row),sA 6 6 11 0,sI 4 r2.2.1,sA 5 5 4 0,sA 3 3 11 0],[(6,(zA.row r3.1)),(5,(Frame.row r2.2.2)),(3,(zA.row r2.1))]⟩ ?_
  rw [h18]
  refine mA zD [(55,[]),(56,[])] 23 [⟨[63],3,154,155⟩,⟨[63],3,143,144⟩,⟨[29,63],39,129,130⟩,⟨[13,15,29,63],39,114,115⟩] fun cx => ?_
  refine oN zD 57 Out.row ev16 fun cx => ?_
  refine mA zD [(58,[]),(59,[]),(61,[]),(62,[63])] 18 [⟨[63],30,165,166⟩,⟨[63],3,154,155⟩,⟨[63],3,143,144⟩,⟨[29,63],39,129,130⟩,⟨[13,15,29,63],39,114,115⟩] fun cx => ?_
  refine mC zD 60 ?_
  refine dE (tI 30) (.slot 7) [(0,(y11.toNat))] 5 4 [cL 5 r3.2 Out.row] (Out.row v16) (zQ rfl (zY ev16).2) ?_
  refine fA ?_
  refine mC zD 63 ?_
  refine LAt.callO tOk [.rd,.rd] (f := 48) (av := #[.tmp 164,.tmp 166]) (ats := #[30,30]) (d := (some 167)) (ty := 4) (g := (some (54,false))) [(164,Out.row v16)] none kr kr kr [.slot 7,.box 5] (Ql n v16.F.Data r2.2.2.Data r21 er21) (zAt (row := [cL 5 r3.2 Out.row]) (q := [(0,(y11.toNat))]) kr (zQ rfl (zY ev16).2) zBi) kr zBh (.inr (And.intro (zO (zF zL zP) zb) zAu)) ?_
  refine fA ?_
  refine mA zD [(64,[]),(65,[]),(66,[])] 13 [⟨[63],30,165,166⟩,⟨[63],3,154,155⟩,⟨[63],3,143,144⟩,⟨[29,63],39,129,130⟩,⟨[13,15,29,63],39,114,115⟩] fun cx => ?_
  refine sA_ 0x4600c018006000c00000000000000000000000074f8 104 ⟨228,0,[sB 170 (!r21),sR 166 5 4 3 1 false,sA 165 5 4 3,sI 155 r2.2.2.Src,sA 154 5 4 1,sI 144 r2.2.2.Dst,sA 143 5 4 0,sR 130 3 11 4 2 true,sA 129 3 11 4,sR 115 3 11 4 2 true,sA 114 3 11 4,sI 14 v16.Port,sI 13 y11,sI 12 r9,sI 10 r8.1,sC 7 (cL 5 r3.2 Out.row),sA 6 6 11 0,sI 4 r2.2.1,sA 5 5 4 0,sA 3 3 11 0],[(6,(zA.row r3.1)),(5,(Frame.row r2.2.2)),(3,(zA.row r2.1))]⟩ ?_
  rw [h19]
  refine mA zD [(67,[]),(68,[]),(69,[])] 10 [⟨[63],30,165,166⟩,⟨[63],3,154,155⟩,⟨[63],3,143,144⟩,⟨[29,63],39,129,130⟩,⟨[13,15,29,63],39,114,115⟩] fun cx => ?_
  refine sA_ 0x24600c018006000c00000000000000000000000074f8 104 ⟨228,0,[sB 173 (decide (y11 > 0)),sB 170 false,sR 166 5 4 3 1 false,sA 165 5 4 3,sI 155 r2.2.2.Src,sA 154 5 4 1,sI 144 r2.2.2.Dst,sA 143 5 4 0,sR 130 3 11 4 2 true,sA 129 3 11 4,sR 115 3 11 4 2 true,sA 114 3 11 4,sI 14 v16.Port,sI 13 y11,sI 12 r9,sI 10 r8.1,sC 7 (cL 5 r3.2 Out.row),sA 6 6 11 0,sI 4 r2.2.1,sA 5 5 4 0,sA 3 3 11 0],[(6,(zA.row r3.1)),(5,(Frame.row r2.2.2)),(3,(zA.row r2.1))]⟩ ?_
  rw [h20]
  refine mA zD [(70,[]),(71,[]),(72,[])] 7 [⟨[63],30,165,166⟩,⟨[63],3,154,155⟩,⟨[63],3,143,144⟩,⟨[29,63],39,129,130⟩,⟨[13,15,29,63],39,114,115⟩] fun cx => ?_
  refine oN zD 73 Out.row ev22 fun cx => ?_
  refine mA zD [(74,[]),(76,[])] 4 [⟨[63],30,165,166⟩,⟨[63],3,154,155⟩,⟨[63],3,143,144⟩,⟨[29,63],39,129,130⟩,⟨[13,15,29,63],39,114,115⟩] fun cx => ?_
  refine mC zD 75 ?_
  refine dE (tI 3) (.slot 7) [(0,((IntKind.wrap .i64 (y11 - 1)).toNat))] 5 0 [cL 5 r3.2 Out.row] (Out.row v22) (zQ rfl (zY ev22).2) ?_
  refine fA ?_
  refine mA zD [(77,[]),(78,[]),(79,[])] 0 [⟨[63],30,165,166⟩,⟨[63],3,154,155⟩,⟨[63],3,143,144⟩,⟨[29,63],39,129,130⟩,⟨[13,15,29,63],39,114,115⟩] fun cx => ?_
  exact mE zD [183,13,12,10,7,6,4,5,3] [6,5,3]
theorem zFs (n : Nat) (v16 : Out) (r2 : zA × Int × Frame) (y11 : Int) (r9 : Int) (r8 : Int × Bool) (r3 : zA × (List Out)) (r17 : Bool) (r18 : Int) (r19 : Bool) (r20 : Int) (r21 : Bool) (h13 : (v16.Port == r2.2.1) = false) (h14 : (!r17) = false) (er17 : (qM n r9 v16.Port) = some r17) (ev16 : (idx r3.2 y11) = some v16) (er18 : (qG n r2.1.V r8.1) = some r18) (er19 : (qM n r18 v16.Port) = some r19) (er20 : (qc n r2.1.V r8.1 v16.Port) = some r20) (er21 : (ZP n v16.F.Data r2.2.2.Data) = some r21) (h15 : (!r19) = false) (h16 : (v16.F.Tag != r20) = false) (h17 : (v16.F.Dst != r2.2.2.Dst) = false) (h18 : (v16.F.Src != r2.2.2.Src) = false) (h19 : (!r21) = true) (cx : Cx) : AT Tryz.prog cx (rg Tryz.f6 16) [] 80 [] ⟨228,0,[sI 14 v16.Port,sI 13 y11,sI 12 r9,sI 10 r8.1,sC 7 (cL 5 r3.2 Out.row),sA 6 6 11 0,sI 4 r2.2.1,sA 5 5 4 0,sA 3 3 11 0],[(6,(zA.row r3.1)),(5,(Frame.row r2.2.2)),(3,(zA.row r2.1))]⟩ (fun s => s = ⟨228,0,[sB 183 true,sI 13 y11,sI 12 r9,sI 10 r8.1,sC 7 (cL 5 r3.2 Out.row),sA 6 6 11 0,sI 4 r2.2.1,sA 5 5 4 0,sA 3 3 11 0],[(6,(zA.row r3.1)),(5,(Frame.row r2.2.2)),(3,(zA.row r2.1))]⟩) := by
 refine mA zD [(0,[]),(1,[]),(2,[]),(3,[])] 76 [] fun cx => ?_
 refine sA_ 0x8000000000000000000000074f8 104 ⟨228,0,[sB 107 (v16.Port == r2.2.1),sI 14 v16.Port,sI 13 y11,sI 12 r9,sI 10 r8.1,sC 7 (cL 5 r3.2 Out.row),sA 6 6 11 0,sI 4 r2.2.1,sA 5 5 4 0,sA 3 3 11 0],[(6,(zA.row r3.1)),(5,(Frame.row r2.2.2)),(3,(zA.row r2.1))]⟩ ?_
 rw [h13]
 refine mA zD [(4,[]),(5,[])] 74 [] fun cx => ?_
 refine mC zD 6 ?_
 refine vA [.rd,.rd] (ZM n r9 v16.Port r17 er17) ?_
 refine fA ?_
 refine mA zD [(7,[]),(8,[]),(9,[])] 70 [] fun cx => ?_
 refine sA_ 0x200000000000000000000000074f8 104 ⟨228,0,[sB 113 (!r17),sI 14 v16.Port,sI 13 y11,sI 12 r9,sI 10 r8.1,sC 7 (cL 5 r3.2 Out.row),sA 6 6 11 0,sI 4 r2.2.1,sA 5 5 4 0,sA 3 3 11 0],[(6,(zA.row r3.1)),(5,(Frame.row r2.2.2)),(3,(zA.row r2.1))]⟩ ?_
 rw [h14]
 refine mA zD [(10,[]),(11,[13,15,29,63]),(12,[]),(14,[])] 66 [⟨[13,15,29,63],39,114,115⟩] fun cx => ?_
 refine mC zD 13 ?_
 refine vB [.rd,.rd] [.box 3] (Z6 n r2.1.V r8.1 r18 er18) (.inr (zO (zF zL zP) zb)) ?_
 refine fA ?_
 refine mC zD 15 ?_
 refine vA [.rd,.rd] (ZM n r18 v16.Port r19 er19) ?_
 refine fA ?_
 refine mA zD [(16,[]),(17,[]),(18,[])] 61 [⟨[13,15,29,63],39,114,115⟩] fun cx => ?_
 refine sA_ 0x40c00000000000000000000000074f8 104 ⟨228,0,[sB 122 (!r19),sR 115 3 11 4 2 true,sA 114 3 11 4,sI 14 v16.Port,sI 13 y11,sI 12 r9,sI 10 r8.1,sC 7 (cL 5 r3.2 Out.row),sA 6 6 11 0,sI 4 r2.2.1,sA 5 5 4 0,sA 3 3 11 0],[(6,(zA.row r3.1)),(5,(Frame.row r2.2.2)),(3,(zA.row r2.1))]⟩ ?_
 rw [h15]
 refine mA zD [(19,[]),(20,[])] 59 [⟨[13,15,29,63],39,114,115⟩] fun cx => ?_
 refine oN zD 21 Out.row ev16 fun cx => ?_
 refine mA zD [(22,[]),(23,[]),(25,[]),(26,[29,63]),(27,[]),(28,[])] 52 [⟨[29,63],39,129,130⟩,⟨[13,15,29,63],39,114,115⟩] fun cx => ?_
 refine mB2 tOk zD 24 29 kr (And.intro kr ?_) (And.intro kr ?_)
 ·refine dE (tI 3) (.slot 7) [(0,(y11.toNat))] 5 3 [cL 5 r3.2 Out.row] (Out.row v16) (zQ rfl (zY ev16).2) ?_
  refine fA ?_
  refine mC zD 29 ?_
  refine vB [.rd,.rd,.rd] [.box 3] (qb n r2.1.V r8.1 v16.Port r20 er20) (.inr (zO (zF zL zP) zb)) ?_
  refine fA ?_
  refine mA zD [(30,[]),(31,[]),(32,[])] 47 [⟨[29,63],39,129,130⟩,⟨[13,15,29,63],39,114,115⟩] fun cx => ?_
  refine sA_ 0x106000c00000000000000000000000074f8 104 ⟨228,0,[sB 136 (v16.F.Tag != r20),sR 130 3 11 4 2 true,sA 129 3 11 4,sR 115 3 11 4 2 true,sA 114 3 11 4,sI 14 v16.Port,sI 13 y11,sI 12 r9,sI 10 r8.1,sC 7 (cL 5 r3.2 Out.row),sA 6 6 11 0,sI 4 r2.2.1,sA 5 5 4 0,sA 3 3 11 0],[(6,(zA.row r3.1)),(5,(Frame.row r2.2.2)),(3,(zA.row r2.1))]⟩ ?_
  rw [h16]
  refine mA zD [(33,[]),(34,[])] 45 [⟨[29,63],39,129,130⟩,⟨[13,15,29,63],39,114,115⟩] fun cx => ?_
  refine oN zD 35 Out.row ev16 fun cx => ?_
  refine mA zD [(36,[]),(37,[]),(39,[]),(40,[63])] 40 [⟨[63],3,143,144⟩,⟨[29,63],39,129,130⟩,⟨[13,15,29,63],39,114,115⟩] fun cx => ?_
  refine mC zD 38 ?_
  refine dE (tI 3) (.slot 7) [(0,(y11.toNat))] 5 1 [cL 5 r3.2 Out.row] (Out.row v16) (zQ rfl (zY ev16).2) ?_
  refine fA ?_
  refine mA zD [(41,[]),(42,[]),(43,[])] 36 [⟨[63],3,143,144⟩,⟨[29,63],39,129,130⟩,⟨[13,15,29,63],39,114,115⟩] fun cx => ?_
  refine sA_ 0x98006000c00000000000000000000000074f8 104 ⟨228,0,[sB 147 (v16.F.Dst != r2.2.2.Dst),sI 144 r2.2.2.Dst,sA 143 5 4 0,sR 130 3 11 4 2 true,sA 129 3 11 4,sR 115 3 11 4 2 true,sA 114 3 11 4,sI 14 v16.Port,sI 13 y11,sI 12 r9,sI 10 r8.1,sC 7 (cL 5 r3.2 Out.row),sA 6 6 11 0,sI 4 r2.2.1,sA 5 5 4 0,sA 3 3 11 0],[(6,(zA.row r3.1)),(5,(Frame.row r2.2.2)),(3,(zA.row r2.1))]⟩ ?_
  rw [h17]
  refine mA zD [(44,[]),(45,[])] 34 [⟨[63],3,143,144⟩,⟨[29,63],39,129,130⟩,⟨[13,15,29,63],39,114,115⟩] fun cx => ?_
  refine oN zD 46 Out.row ev16 fun cx => ?_
  refine mA zD [(47,[]),(48,[]),(50,[]),(51,[63])] 29 [⟨[63],3,154,155⟩,⟨[63],3,143,144⟩,⟨[29,63],39,129,130⟩,⟨[13,15,29,63],39,114,115⟩] fun cx => ?_
  refine mC zD 49 ?_
  refine dE (tI 3) (.slot 7) [(0,(y11.toNat))] 5 2 [cL 5 r3.2 Out.row] (Out.row v16) (zQ rfl (zY ev16).2) ?_
  refine fA ?_
  refine mA zD [(52,[]),(53,[]),(54,[])] 25 [⟨[63],3,154,155⟩,⟨[63],3,143,144⟩,⟨[29,63],39,129,130⟩,⟨[13,15,29,63],39,114,115⟩] fun cx => ?_
  refine sA_ 0x4c018006000c00000000000000000000000074f8 104 ⟨228,0,[sB 158 (v16.F.Src != r2.2.2.Src),sI 155 r2.2.2.Src,sA 154 5 4 1,sI 144 r2.2.2.Dst,sA 143 5 4 0,sR 130 3 11 4 2 true,sA 129 3 11 4,sR 115 3 11 4 2 true,sA 114 3 11 4,sI 14 v16.Port,sI 13 y11,sI 12 r9,sI 10 r8.1,sC 7 (cL 5 r3.2 Out.row),sA 6 6 11 0,sI 4 r2.2.1,sA 5 5 4 0,sA 3 3 11 0],[(6,(zA.row r3.1)),(5,(Frame.row r2.2.2)),(3,(zA.row r2.1))]⟩ ?_
  rw [h18]
  refine mA zD [(55,[]),(56,[])] 23 [⟨[63],3,154,155⟩,⟨[63],3,143,144⟩,⟨[29,63],39,129,130⟩,⟨[13,15,29,63],39,114,115⟩] fun cx => ?_
  refine oN zD 57 Out.row ev16 fun cx => ?_
  refine mA zD [(58,[]),(59,[]),(61,[]),(62,[63])] 18 [⟨[63],30,165,166⟩,⟨[63],3,154,155⟩,⟨[63],3,143,144⟩,⟨[29,63],39,129,130⟩,⟨[13,15,29,63],39,114,115⟩] fun cx => ?_
  refine mC zD 60 ?_
  refine dE (tI 30) (.slot 7) [(0,(y11.toNat))] 5 4 [cL 5 r3.2 Out.row] (Out.row v16) (zQ rfl (zY ev16).2) ?_
  refine fA ?_
  refine mC zD 63 ?_
  refine LAt.callO tOk [.rd,.rd] (f := 48) (av := #[.tmp 164,.tmp 166]) (ats := #[30,30]) (d := (some 167)) (ty := 4) (g := (some (54,false))) [(164,Out.row v16)] none kr kr kr [.slot 7,.box 5] (Ql n v16.F.Data r2.2.2.Data r21 er21) (zAt (row := [cL 5 r3.2 Out.row]) (q := [(0,(y11.toNat))]) kr (zQ rfl (zY ev16).2) zBi) kr zBh (.inr (And.intro (zO (zF zL zP) zb) zAu)) ?_
  refine fA ?_
  refine mA zD [(64,[]),(65,[]),(66,[])] 13 [⟨[63],30,165,166⟩,⟨[63],3,154,155⟩,⟨[63],3,143,144⟩,⟨[29,63],39,129,130⟩,⟨[13,15,29,63],39,114,115⟩] fun cx => ?_
  refine sA_ 0x4600c018006000c00000000000000000000000074f8 104 ⟨228,0,[sB 170 (!r21),sR 166 5 4 3 1 false,sA 165 5 4 3,sI 155 r2.2.2.Src,sA 154 5 4 1,sI 144 r2.2.2.Dst,sA 143 5 4 0,sR 130 3 11 4 2 true,sA 129 3 11 4,sR 115 3 11 4 2 true,sA 114 3 11 4,sI 14 v16.Port,sI 13 y11,sI 12 r9,sI 10 r8.1,sC 7 (cL 5 r3.2 Out.row),sA 6 6 11 0,sI 4 r2.2.1,sA 5 5 4 0,sA 3 3 11 0],[(6,(zA.row r3.1)),(5,(Frame.row r2.2.2)),(3,(zA.row r2.1))]⟩ ?_
  rw [h19]
  refine mA zD [(67,[]),(68,[]),(69,[]),(70,[]),(71,[]),(72,[]),(73,[]),(74,[]),(75,[]),(76,[]),(77,[]),(78,[]),(79,[])] 0 [⟨[63],30,165,166⟩,⟨[63],3,154,155⟩,⟨[63],3,143,144⟩,⟨[29,63],39,129,130⟩,⟨[13,15,29,63],39,114,115⟩] fun cx => ?_
  exact mE zD [183,13,12,10,7,6,4,5,3] [6,5,3]
 ·refine vB [.rd,.rd,.rd] [.box 3] (qb n r2.1.V r8.1 v16.Port r20 er20) (.inr (zO (zF zL zP) zb)) ?_
  refine fA ?_
  refine mC zD 24 ?_
  refine dE (tI 3) (.slot 7) [(0,(y11.toNat))] 5 3 [cL 5 r3.2 Out.row] (Out.row v16) (zQ rfl (zY ev16).2) ?_
  refine fA ?_
  refine mA zD [(30,[]),(31,[]),(32,[])] 47 [⟨[29,63],39,129,130⟩,⟨[13,15,29,63],39,114,115⟩] fun cx => ?_
  refine sA_ 0x106000c00000000000000000000000074f8 104 ⟨228,0,[sB 136 (v16.F.Tag != r20),sR 130 3 11 4 2 true,sA 129 3 11 4,sR 115 3 11 4 2 true,sA 114 3 11 4,sI 14 v16.Port,sI 13 y11,sI 12 r9,sI 10 r8.1,sC 7 (cL 5 r3.2 Out.row),sA 6 6 11 0,sI 4 r2.2.1,sA 5 5 4 0,sA 3 3 11 0],[(6,(zA.row r3.1)),(5,(Frame.row r2.2.2)),(3,(zA.row r2.1))]⟩ ?_
  rw [h16]
  refine mA zD [(33,[]),(34,[])] 45 [⟨[29,63],39,129,130⟩,⟨[13,15,29,63],39,114,115⟩] fun cx => ?_
  refine oN zD 35 Out.row ev16 fun cx => ?_
  refine mA zD [(36,[]),(37,[]),(39,[]),(40,[63])] 40 [⟨[63],3,143,144⟩,⟨[29,63],39,129,130⟩,⟨[13,15,29,63],39,114,115⟩] fun cx => ?_
  refine mC zD 38 ?_
  refine dE (tI 3) (.slot 7) [(0,(y11.toNat))] 5 1 [cL 5 r3.2 Out.row] (Out.row v16) (zQ rfl (zY ev16).2) ?_
  refine fA ?_
  refine mA zD [(41,[]),(42,[]),(43,[])] 36 [⟨[63],3,143,144⟩,⟨[29,63],39,129,130⟩,⟨[13,15,29,63],39,114,115⟩] fun cx => ?_
  refine sA_ 0x98006000c00000000000000000000000074f8 104 ⟨228,0,[sB 147 (v16.F.Dst != r2.2.2.Dst),sI 144 r2.2.2.Dst,sA 143 5 4 0,sR 130 3 11 4 2 true,sA 129 3 11 4,sR 115 3 11 4 2 true,sA 114 3 11 4,sI 14 v16.Port,sI 13 y11,sI 12 r9,sI 10 r8.1,sC 7 (cL 5 r3.2 Out.row),sA 6 6 11 0,sI 4 r2.2.1,sA 5 5 4 0,sA 3 3 11 0],[(6,(zA.row r3.1)),(5,(Frame.row r2.2.2)),(3,(zA.row r2.1))]⟩ ?_
  rw [h17]
  refine mA zD [(44,[]),(45,[])] 34 [⟨[63],3,143,144⟩,⟨[29,63],39,129,130⟩,⟨[13,15,29,63],39,114,115⟩] fun cx => ?_
  refine oN zD 46 Out.row ev16 fun cx => ?_
  refine mA zD [(47,[]),(48,[]),(50,[]),(51,[63])] 29 [⟨[63],3,154,155⟩,⟨[63],3,143,144⟩,⟨[29,63],39,129,130⟩,⟨[13,15,29,63],39,114,115⟩] fun cx => ?_
  refine mC zD 49 ?_
  refine dE (tI 3) (.slot 7) [(0,(y11.toNat))] 5 2 [cL 5 r3.2 Out.row] (Out.row v16) (zQ rfl (zY ev16).2) ?_
  refine fA ?_
  refine mA zD [(52,[]),(53,[]),(54,[])] 25 [⟨[63],3,154,155⟩,⟨[63],3,143,144⟩,⟨[29,63],39,129,130⟩,⟨[13,15,29,63],39,114,115⟩] fun cx => ?_
  refine sA_ 0x4c018006000c00000000000000000000000074f8 104 ⟨228,0,[sB 158 (v16.F.Src != r2.2.2.Src),sI 155 r2.2.2.Src,sA 154 5 4 1,sI 144 r2.2.2.Dst,sA 143 5 4 0,sR 130 3 11 4 2 true,sA 129 3 11 4,sR 115 3 11 4 2 true,sA 114 3 11 4,sI 14 v16.Port,sI 13 y11,sI 12 r9,sI 10 r8.1,sC 7 (cL 5 r3.2 Out.row),sA 6 6 11 0,sI 4 r2.2.1,sA 5 5 4 0,sA 3 3 11 0],[(6,(zA.row r3.1)),(5,(Frame.row r2.2.2)),(3,(zA.row r2.1))]⟩ ?_
  rw [h18]
  refine mA zD [(55,[]),(56,[])] 23 [⟨[63],3,154,155⟩,⟨[63],3,143,144⟩,⟨[29,63],39,129,130⟩,⟨[13,15,29,63],39,114,115⟩] fun cx => ?_
  refine oN zD 57 Out.row ev16 fun cx => ?_
  refine mA zD [(58,[]),(59,[]),(61,[]),(62,[63])] 18 [⟨[63],30,165,166⟩,⟨[63],3,154,155⟩,⟨[63],3,143,144⟩,⟨[29,63],39,129,130⟩,⟨[13,15,29,63],39,114,115⟩] fun cx => ?_
  refine mC zD 60 ?_
  refine dE (tI 30) (.slot 7) [(0,(y11.toNat))] 5 4 [cL 5 r3.2 Out.row] (Out.row v16) (zQ rfl (zY ev16).2) ?_
  refine fA ?_
  refine mC zD 63 ?_
  refine LAt.callO tOk [.rd,.rd] (f := 48) (av := #[.tmp 164,.tmp 166]) (ats := #[30,30]) (d := (some 167)) (ty := 4) (g := (some (54,false))) [(164,Out.row v16)] none kr kr kr [.slot 7,.box 5] (Ql n v16.F.Data r2.2.2.Data r21 er21) (zAt (row := [cL 5 r3.2 Out.row]) (q := [(0,(y11.toNat))]) kr (zQ rfl (zY ev16).2) zBi) kr zBh (.inr (And.intro (zO (zF zL zP) zb) zAu)) ?_
  refine fA ?_
  refine mA zD [(64,[]),(65,[]),(66,[])] 13 [⟨[63],30,165,166⟩,⟨[63],3,154,155⟩,⟨[63],3,143,144⟩,⟨[29,63],39,129,130⟩,⟨[13,15,29,63],39,114,115⟩] fun cx => ?_
  refine sA_ 0x4600c018006000c00000000000000000000000074f8 104 ⟨228,0,[sB 170 (!r21),sR 166 5 4 3 1 false,sA 165 5 4 3,sI 155 r2.2.2.Src,sA 154 5 4 1,sI 144 r2.2.2.Dst,sA 143 5 4 0,sR 130 3 11 4 2 true,sA 129 3 11 4,sR 115 3 11 4 2 true,sA 114 3 11 4,sI 14 v16.Port,sI 13 y11,sI 12 r9,sI 10 r8.1,sC 7 (cL 5 r3.2 Out.row),sA 6 6 11 0,sI 4 r2.2.1,sA 5 5 4 0,sA 3 3 11 0],[(6,(zA.row r3.1)),(5,(Frame.row r2.2.2)),(3,(zA.row r2.1))]⟩ ?_
  rw [h19]
  refine mA zD [(67,[]),(68,[]),(69,[]),(70,[]),(71,[]),(72,[]),(73,[]),(74,[]),(75,[]),(76,[]),(77,[]),(78,[]),(79,[])] 0 [⟨[63],30,165,166⟩,⟨[63],3,154,155⟩,⟨[63],3,143,144⟩,⟨[29,63],39,129,130⟩,⟨[13,15,29,63],39,114,115⟩] fun cx => ?_
  exact mE zD [183,13,12,10,7,6,4,5,3] [6,5,3]
theorem zFt (n : Nat) (v16 : Out) (r2 : zA × Int × Frame) (y11 : Int) (r9 : Int) (r8 : Int × Bool) (r3 : zA × (List Out)) (r17 : Bool) (r18 : Int) (r19 : Bool) (r20 : Int) (h13 : (v16.Port == r2.2.1) = false) (h14 : (!r17) = false) (er17 : (qM n r9 v16.Port) = some r17) (ev16 : (idx r3.2 y11) = some v16) (er18 : (qG n r2.1.V r8.1) = some r18) (er19 : (qM n r18 v16.Port) = some r19) (er20 : (qc n r2.1.V r8.1 v16.Port) = some r20) (h15 : (!r19) = false) (h16 : (v16.F.Tag != r20) = false) (h17 : (v16.F.Dst != r2.2.2.Dst) = false) (h18 : (v16.F.Src != r2.2.2.Src) = true) (cx : Cx) : AT Tryz.prog cx (rg Tryz.f6 16) [] 80 [] ⟨228,0,[sI 14 v16.Port,sI 13 y11,sI 12 r9,sI 10 r8.1,sC 7 (cL 5 r3.2 Out.row),sA 6 6 11 0,sI 4 r2.2.1,sA 5 5 4 0,sA 3 3 11 0],[(6,(zA.row r3.1)),(5,(Frame.row r2.2.2)),(3,(zA.row r2.1))]⟩ (fun s => s = ⟨228,0,[sB 183 true,sI 13 y11,sI 12 r9,sI 10 r8.1,sC 7 (cL 5 r3.2 Out.row),sA 6 6 11 0,sI 4 r2.2.1,sA 5 5 4 0,sA 3 3 11 0],[(6,(zA.row r3.1)),(5,(Frame.row r2.2.2)),(3,(zA.row r2.1))]⟩) := by
 refine mA zD [(0,[]),(1,[]),(2,[]),(3,[])] 76 [] fun cx => ?_
 refine sA_ 0x8000000000000000000000074f8 104 ⟨228,0,[sB 107 (v16.Port == r2.2.1),sI 14 v16.Port,sI 13 y11,sI 12 r9,sI 10 r8.1,sC 7 (cL 5 r3.2 Out.row),sA 6 6 11 0,sI 4 r2.2.1,sA 5 5 4 0,sA 3 3 11 0],[(6,(zA.row r3.1)),(5,(Frame.row r2.2.2)),(3,(zA.row r2.1))]⟩ ?_
 rw [h13]
 refine mA zD [(4,[]),(5,[])] 74 [] fun cx => ?_
 refine mC zD 6 ?_
 refine vA [.rd,.rd] (ZM n r9 v16.Port r17 er17) ?_
 refine fA ?_
 refine mA zD [(7,[]),(8,[]),(9,[])] 70 [] fun cx => ?_
 refine sA_ 0x200000000000000000000000074f8 104 ⟨228,0,[sB 113 (!r17),sI 14 v16.Port,sI 13 y11,sI 12 r9,sI 10 r8.1,sC 7 (cL 5 r3.2 Out.row),sA 6 6 11 0,sI 4 r2.2.1,sA 5 5 4 0,sA 3 3 11 0],[(6,(zA.row r3.1)),(5,(Frame.row r2.2.2)),(3,(zA.row r2.1))]⟩ ?_
 rw [h14]
 refine mA zD [(10,[]),(11,[13,15,29]),(12,[]),(14,[])] 66 [⟨[13,15,29],39,114,115⟩] fun cx => ?_
 refine mC zD 13 ?_
 refine vB [.rd,.rd] [.box 3] (Z6 n r2.1.V r8.1 r18 er18) (.inr (zO (zF zL zP) zb)) ?_
 refine fA ?_
 refine mC zD 15 ?_
 refine vA [.rd,.rd] (ZM n r18 v16.Port r19 er19) ?_
 refine fA ?_
 refine mA zD [(16,[]),(17,[]),(18,[])] 61 [⟨[13,15,29],39,114,115⟩] fun cx => ?_
 refine sA_ 0x40c00000000000000000000000074f8 104 ⟨228,0,[sB 122 (!r19),sR 115 3 11 4 2 true,sA 114 3 11 4,sI 14 v16.Port,sI 13 y11,sI 12 r9,sI 10 r8.1,sC 7 (cL 5 r3.2 Out.row),sA 6 6 11 0,sI 4 r2.2.1,sA 5 5 4 0,sA 3 3 11 0],[(6,(zA.row r3.1)),(5,(Frame.row r2.2.2)),(3,(zA.row r2.1))]⟩ ?_
 rw [h15]
 refine mA zD [(19,[]),(20,[])] 59 [⟨[13,15,29],39,114,115⟩] fun cx => ?_
 refine oN zD 21 Out.row ev16 fun cx => ?_
 refine mA zD [(22,[]),(23,[]),(25,[]),(26,[29]),(27,[]),(28,[])] 52 [⟨[29],39,129,130⟩,⟨[13,15,29],39,114,115⟩] fun cx => ?_
 refine mB2 tOk zD 24 29 kr (And.intro kr ?_) (And.intro kr ?_)
 ·refine dE (tI 3) (.slot 7) [(0,(y11.toNat))] 5 3 [cL 5 r3.2 Out.row] (Out.row v16) (zQ rfl (zY ev16).2) ?_
  refine fA ?_
  refine mC zD 29 ?_
  refine vB [.rd,.rd,.rd] [.box 3] (qb n r2.1.V r8.1 v16.Port r20 er20) (.inr (zO (zF zL zP) zb)) ?_
  refine fA ?_
  refine mA zD [(30,[]),(31,[]),(32,[])] 47 [⟨[29],39,129,130⟩,⟨[13,15,29],39,114,115⟩] fun cx => ?_
  refine sA_ 0x106000c00000000000000000000000074f8 104 ⟨228,0,[sB 136 (v16.F.Tag != r20),sR 130 3 11 4 2 true,sA 129 3 11 4,sR 115 3 11 4 2 true,sA 114 3 11 4,sI 14 v16.Port,sI 13 y11,sI 12 r9,sI 10 r8.1,sC 7 (cL 5 r3.2 Out.row),sA 6 6 11 0,sI 4 r2.2.1,sA 5 5 4 0,sA 3 3 11 0],[(6,(zA.row r3.1)),(5,(Frame.row r2.2.2)),(3,(zA.row r2.1))]⟩ ?_
  rw [h16]
  refine mA zD [(33,[]),(34,[])] 45 [⟨[29],39,129,130⟩,⟨[13,15,29],39,114,115⟩] fun cx => ?_
  refine oN zD 35 Out.row ev16 fun cx => ?_
  refine mA zD [(36,[]),(37,[]),(39,[]),(40,[])] 40 [⟨[],3,143,144⟩,⟨[29],39,129,130⟩,⟨[13,15,29],39,114,115⟩] fun cx => ?_
  refine mC zD 38 ?_
  refine dE (tI 3) (.slot 7) [(0,(y11.toNat))] 5 1 [cL 5 r3.2 Out.row] (Out.row v16) (zQ rfl (zY ev16).2) ?_
  refine fA ?_
  refine mA zD [(41,[]),(42,[]),(43,[])] 36 [⟨[],3,143,144⟩,⟨[29],39,129,130⟩,⟨[13,15,29],39,114,115⟩] fun cx => ?_
  refine sA_ 0x98006000c00000000000000000000000074f8 104 ⟨228,0,[sB 147 (v16.F.Dst != r2.2.2.Dst),sI 144 r2.2.2.Dst,sA 143 5 4 0,sR 130 3 11 4 2 true,sA 129 3 11 4,sR 115 3 11 4 2 true,sA 114 3 11 4,sI 14 v16.Port,sI 13 y11,sI 12 r9,sI 10 r8.1,sC 7 (cL 5 r3.2 Out.row),sA 6 6 11 0,sI 4 r2.2.1,sA 5 5 4 0,sA 3 3 11 0],[(6,(zA.row r3.1)),(5,(Frame.row r2.2.2)),(3,(zA.row r2.1))]⟩ ?_
  rw [h17]
  refine mA zD [(44,[]),(45,[])] 34 [⟨[],3,143,144⟩,⟨[29],39,129,130⟩,⟨[13,15,29],39,114,115⟩] fun cx => ?_
  refine oN zD 46 Out.row ev16 fun cx => ?_
  refine mA zD [(47,[]),(48,[]),(50,[]),(51,[])] 29 [⟨[],3,154,155⟩,⟨[],3,143,144⟩,⟨[29],39,129,130⟩,⟨[13,15,29],39,114,115⟩] fun cx => ?_
  refine mC zD 49 ?_
  refine dE (tI 3) (.slot 7) [(0,(y11.toNat))] 5 2 [cL 5 r3.2 Out.row] (Out.row v16) (zQ rfl (zY ev16).2) ?_
  refine fA ?_
  refine mA zD [(52,[]),(53,[]),(54,[])] 25 [⟨[],3,154,155⟩,⟨[],3,143,144⟩,⟨[29],39,129,130⟩,⟨[13,15,29],39,114,115⟩] fun cx => ?_
  refine sA_ 0x4c018006000c00000000000000000000000074f8 104 ⟨228,0,[sB 158 (v16.F.Src != r2.2.2.Src),sI 155 r2.2.2.Src,sA 154 5 4 1,sI 144 r2.2.2.Dst,sA 143 5 4 0,sR 130 3 11 4 2 true,sA 129 3 11 4,sR 115 3 11 4 2 true,sA 114 3 11 4,sI 14 v16.Port,sI 13 y11,sI 12 r9,sI 10 r8.1,sC 7 (cL 5 r3.2 Out.row),sA 6 6 11 0,sI 4 r2.2.1,sA 5 5 4 0,sA 3 3 11 0],[(6,(zA.row r3.1)),(5,(Frame.row r2.2.2)),(3,(zA.row r2.1))]⟩ ?_
  rw [h18]
  refine mA zD [(55,[]),(56,[]),(57,[]),(58,[]),(59,[]),(60,[]),(61,[]),(62,[]),(63,[]),(64,[]),(65,[]),(66,[]),(67,[]),(68,[]),(69,[]),(70,[]),(71,[]),(72,[]),(73,[]),(74,[]),(75,[]),(76,[]),(77,[]),(78,[]),(79,[])] 0 [⟨[],3,154,155⟩,⟨[],3,143,144⟩,⟨[29],39,129,130⟩,⟨[13,15,29],39,114,115⟩] fun cx => ?_
  exact mE zD [183,13,12,10,7,6,4,5,3] [6,5,3]
 ·refine vB [.rd,.rd,.rd] [.box 3] (qb n r2.1.V r8.1 v16.Port r20 er20) (.inr (zO (zF zL zP) zb)) ?_
  refine fA ?_
  refine mC zD 24 ?_
  refine dE (tI 3) (.slot 7) [(0,(y11.toNat))] 5 3 [cL 5 r3.2 Out.row] (Out.row v16) (zQ rfl (zY ev16).2) ?_
  refine fA ?_
  refine mA zD [(30,[]),(31,[]),(32,[])] 47 [⟨[29],39,129,130⟩,⟨[13,15,29],39,114,115⟩] fun cx => ?_
  refine sA_ 0x106000c00000000000000000000000074f8 104 ⟨228,0,[sB 136 (v16.F.Tag != r20),sR 130 3 11 4 2 true,sA 129 3 11 4,sR 115 3 11 4 2 true,sA 114 3 11 4,sI 14 v16.Port,sI 13 y11,sI 12 r9,sI 10 r8.1,sC 7 (cL 5 r3.2 Out.row),sA 6 6 11 0,sI 4 r2.2.1,sA 5 5 4 0,sA 3 3 11 0],[(6,(zA.row r3.1)),(5,(Frame.row r2.2.2)),(3,(zA.row r2.1))]⟩ ?_
  rw [h16]
  refine mA zD [(33,[]),(34,[])] 45 [⟨[29],39,129,130⟩,⟨[13,15,29],39,114,115⟩] fun cx => ?_
  refine oN zD 35 Out.row ev16 fun cx => ?_
  refine mA zD [(36,[]),(37,[]),(39,[]),(40,[])] 40 [⟨[],3,143,144⟩,⟨[29],39,129,130⟩,⟨[13,15,29],39,114,115⟩] fun cx => ?_
  refine mC zD 38 ?_
  refine dE (tI 3) (.slot 7) [(0,(y11.toNat))] 5 1 [cL 5 r3.2 Out.row] (Out.row v16) (zQ rfl (zY ev16).2) ?_
  refine fA ?_
  refine mA zD [(41,[]),(42,[]),(43,[])] 36 [⟨[],3,143,144⟩,⟨[29],39,129,130⟩,⟨[13,15,29],39,114,115⟩] fun cx => ?_
  refine sA_ 0x98006000c00000000000000000000000074f8 104 ⟨228,0,[sB 147 (v16.F.Dst != r2.2.2.Dst),sI 144 r2.2.2.Dst,sA 143 5 4 0,sR 130 3 11 4 2 true,sA 129 3 11 4,sR 115 3 11 4 2 true,sA 114 3 11 4,sI 14 v16.Port,sI 13 y11,sI 12 r9,sI 10 r8.1,sC 7 (cL 5 r3.2 Out.row),sA 6 6 11 0,sI 4 r2.2.1,sA 5 5 4 0,sA 3 3 11 0],[(6,(zA.row r3.1)),(5,(Frame.row r2.2.2)),(3,(zA.row r2.1))]⟩ ?_
  rw [h17]
  refine mA zD [(44,[]),(45,[])] 34 [⟨[],3,143,144⟩,⟨[29],39,129,130⟩,⟨[13,15,29],39,114,115⟩] fun cx => ?_
  refine oN zD 46 Out.row ev16 fun cx => ?_
  refine mA zD [(47,[]),(48,[]),(50,[]),(51,[])] 29 [⟨[],3,154,155⟩,⟨[],3,143,144⟩,⟨[29],39,129,130⟩,⟨[13,15,29],39,114,115⟩] fun cx => ?_
  refine mC zD 49 ?_
  refine dE (tI 3) (.slot 7) [(0,(y11.toNat))] 5 2 [cL 5 r3.2 Out.row] (Out.row v16) (zQ rfl (zY ev16).2) ?_
  refine fA ?_
  refine mA zD [(52,[]),(53,[]),(54,[])] 25 [⟨[],3,154,155⟩,⟨[],3,143,144⟩,⟨[29],39,129,130⟩,⟨[13,15,29],39,114,115⟩] fun cx => ?_
  refine sA_ 0x4c018006000c00000000000000000000000074f8 104 ⟨228,0,[sB 158 (v16.F.Src != r2.2.2.Src),sI 155 r2.2.2.Src,sA 154 5 4 1,sI 144 r2.2.2.Dst,sA 143 5 4 0,sR 130 3 11 4 2 true,sA 129 3 11 4,sR 115 3 11 4 2 true,sA 114 3 11 4,sI 14 v16.Port,sI 13 y11,sI 12 r9,sI 10 r8.1,sC 7 (cL 5 r3.2 Out.row),sA 6 6 11 0,sI 4 r2.2.1,sA 5 5 4 0,sA 3 3 11 0],[(6,(zA.row r3.1)),(5,(Frame.row r2.2.2)),(3,(zA.row r2.1))]⟩ ?_
  rw [h18]
  refine mA zD [(55,[]),(56,[]),(57,[]),(58,[]),(59,[]),(60,[]),(61,[]),(62,[]),(63,[]),(64,[]),(65,[]),(66,[]),(67,[]),(68,[]),(69,[]),(70,[]),(71,[]),(72,[]),(73,[]),(74,[]),(75,[]),(76,[]),(77,[]),(78,[]),(79,[])] 0 [⟨[],3,154,155⟩,⟨[],3,143,144⟩,⟨[29],39,129,130⟩,⟨[13,15,29],39,114,115⟩] fun cx => ?_
  exact mE zD [183,13,12,10,7,6,4,5,3] [6,5,3]
theorem zFu (n : Nat) (v16 : Out) (r2 : zA × Int × Frame) (y11 : Int) (r9 : Int) (r8 : Int × Bool) (r3 : zA × (List Out)) (r17 : Bool) (r18 : Int) (r19 : Bool) (r20 : Int) (h13 : (v16.Port == r2.2.1) = false) (h14 : (!r17) = false) (er17 : (qM n r9 v16.Port) = some r17) (ev16 : (idx r3.2 y11) = some v16) (er18 : (qG n r2.1.V r8.1) = some r18) (er19 : (qM n r18 v16.Port) = some r19) (er20 : (qc n r2.1.V r8.1 v16.Port) = some r20) (h15 : (!r19) = false) (h16 : (v16.F.Tag != r20) = false) (h17 : (v16.F.Dst != r2.2.2.Dst) = true) (cx : Cx) : AT Tryz.prog cx (rg Tryz.f6 16) [] 80 [] ⟨228,0,[sI 14 v16.Port,sI 13 y11,sI 12 r9,sI 10 r8.1,sC 7 (cL 5 r3.2 Out.row),sA 6 6 11 0,sI 4 r2.2.1,sA 5 5 4 0,sA 3 3 11 0],[(6,(zA.row r3.1)),(5,(Frame.row r2.2.2)),(3,(zA.row r2.1))]⟩ (fun s => s = ⟨228,0,[sB 183 true,sI 13 y11,sI 12 r9,sI 10 r8.1,sC 7 (cL 5 r3.2 Out.row),sA 6 6 11 0,sI 4 r2.2.1,sA 5 5 4 0,sA 3 3 11 0],[(6,(zA.row r3.1)),(5,(Frame.row r2.2.2)),(3,(zA.row r2.1))]⟩) := by
 refine mA zD [(0,[]),(1,[]),(2,[]),(3,[])] 76 [] fun cx => ?_
 refine sA_ 0x8000000000000000000000074f8 104 ⟨228,0,[sB 107 (v16.Port == r2.2.1),sI 14 v16.Port,sI 13 y11,sI 12 r9,sI 10 r8.1,sC 7 (cL 5 r3.2 Out.row),sA 6 6 11 0,sI 4 r2.2.1,sA 5 5 4 0,sA 3 3 11 0],[(6,(zA.row r3.1)),(5,(Frame.row r2.2.2)),(3,(zA.row r2.1))]⟩ ?_
 rw [h13]
 refine mA zD [(4,[]),(5,[])] 74 [] fun cx => ?_
 refine mC zD 6 ?_
 refine vA [.rd,.rd] (ZM n r9 v16.Port r17 er17) ?_
 refine fA ?_
 refine mA zD [(7,[]),(8,[]),(9,[])] 70 [] fun cx => ?_
 refine sA_ 0x200000000000000000000000074f8 104 ⟨228,0,[sB 113 (!r17),sI 14 v16.Port,sI 13 y11,sI 12 r9,sI 10 r8.1,sC 7 (cL 5 r3.2 Out.row),sA 6 6 11 0,sI 4 r2.2.1,sA 5 5 4 0,sA 3 3 11 0],[(6,(zA.row r3.1)),(5,(Frame.row r2.2.2)),(3,(zA.row r2.1))]⟩ ?_
 rw [h14]
 refine mA zD [(10,[]),(11,[13,15,29]),(12,[]),(14,[])] 66 [⟨[13,15,29],39,114,115⟩] fun cx => ?_
 refine mC zD 13 ?_
 refine vB [.rd,.rd] [.box 3] (Z6 n r2.1.V r8.1 r18 er18) (.inr (zO (zF zL zP) zb)) ?_
 refine fA ?_
 refine mC zD 15 ?_
 refine vA [.rd,.rd] (ZM n r18 v16.Port r19 er19) ?_
 refine fA ?_
 refine mA zD [(16,[]),(17,[]),(18,[])] 61 [⟨[13,15,29],39,114,115⟩] fun cx => ?_
 refine sA_ 0x40c00000000000000000000000074f8 104 ⟨228,0,[sB 122 (!r19),sR 115 3 11 4 2 true,sA 114 3 11 4,sI 14 v16.Port,sI 13 y11,sI 12 r9,sI 10 r8.1,sC 7 (cL 5 r3.2 Out.row),sA 6 6 11 0,sI 4 r2.2.1,sA 5 5 4 0,sA 3 3 11 0],[(6,(zA.row r3.1)),(5,(Frame.row r2.2.2)),(3,(zA.row r2.1))]⟩ ?_
 rw [h15]
 refine mA zD [(19,[]),(20,[])] 59 [⟨[13,15,29],39,114,115⟩] fun cx => ?_
 refine oN zD 21 Out.row ev16 fun cx => ?_
 refine mA zD [(22,[]),(23,[]),(25,[]),(26,[29]),(27,[]),(28,[])] 52 [⟨[29],39,129,130⟩,⟨[13,15,29],39,114,115⟩] fun cx => ?_
 refine mB2 tOk zD 24 29 kr (And.intro kr ?_) (And.intro kr ?_)
 ·refine dE (tI 3) (.slot 7) [(0,(y11.toNat))] 5 3 [cL 5 r3.2 Out.row] (Out.row v16) (zQ rfl (zY ev16).2) ?_
  refine fA ?_
  refine mC zD 29 ?_
  refine vB [.rd,.rd,.rd] [.box 3] (qb n r2.1.V r8.1 v16.Port r20 er20) (.inr (zO (zF zL zP) zb)) ?_
  refine fA ?_
  refine mA zD [(30,[]),(31,[]),(32,[])] 47 [⟨[29],39,129,130⟩,⟨[13,15,29],39,114,115⟩] fun cx => ?_
  refine sA_ 0x106000c00000000000000000000000074f8 104 ⟨228,0,[sB 136 (v16.F.Tag != r20),sR 130 3 11 4 2 true,sA 129 3 11 4,sR 115 3 11 4 2 true,sA 114 3 11 4,sI 14 v16.Port,sI 13 y11,sI 12 r9,sI 10 r8.1,sC 7 (cL 5 r3.2 Out.row),sA 6 6 11 0,sI 4 r2.2.1,sA 5 5 4 0,sA 3 3 11 0],[(6,(zA.row r3.1)),(5,(Frame.row r2.2.2)),(3,(zA.row r2.1))]⟩ ?_
  rw [h16]
  refine mA zD [(33,[]),(34,[])] 45 [⟨[29],39,129,130⟩,⟨[13,15,29],39,114,115⟩] fun cx => ?_
  refine oN zD 35 Out.row ev16 fun cx => ?_
  refine mA zD [(36,[]),(37,[]),(39,[]),(40,[])] 40 [⟨[],3,143,144⟩,⟨[29],39,129,130⟩,⟨[13,15,29],39,114,115⟩] fun cx => ?_
  refine mC zD 38 ?_
  refine dE (tI 3) (.slot 7) [(0,(y11.toNat))] 5 1 [cL 5 r3.2 Out.row] (Out.row v16) (zQ rfl (zY ev16).2) ?_
  refine fA ?_
  refine mA zD [(41,[]),(42,[]),(43,[])] 36 [⟨[],3,143,144⟩,⟨[29],39,129,130⟩,⟨[13,15,29],39,114,115⟩] fun cx => ?_
  refine sA_ 0x98006000c00000000000000000000000074f8 104 ⟨228,0,[sB 147 (v16.F.Dst != r2.2.2.Dst),sI 144 r2.2.2.Dst,sA 143 5 4 0,sR 130 3 11 4 2 true,sA 129 3 11 4,sR 115 3 11 4 2 true,sA 114 3 11 4,sI 14 v16.Port,sI 13 y11,sI 12 r9,sI 10 r8.1,sC 7 (cL 5 r3.2 Out.row),sA 6 6 11 0,sI 4 r2.2.1,sA 5 5 4 0,sA 3 3 11 0],[(6,(zA.row r3.1)),(5,(Frame.row r2.2.2)),(3,(zA.row r2.1))]⟩ ?_
  rw [h17]
  refine mA zD [(44,[]),(45,[]),(46,[]),(47,[]),(48,[]),(49,[]),(50,[]),(51,[]),(52,[]),(53,[]),(54,[]),(55,[]),(56,[]),(57,[]),(58,[]),(59,[]),(60,[]),(61,[]),(62,[]),(63,[]),(64,[]),(65,[]),(66,[]),(67,[]),(68,[]),(69,[]),(70,[]),(71,[]),(72,[]),(73,[]),(74,[]),(75,[]),(76,[]),(77,[]),(78,[]),(79,[])] 0 [⟨[],3,143,144⟩,⟨[29],39,129,130⟩,⟨[13,15,29],39,114,115⟩] fun cx => ?_
  exact mE zD [183,13,12,10,7,6,4,5,3] [6,5,3]
 ·refine vB [.rd,.rd,.rd] [.box 3] (qb n r2.1.V r8.1 v16.Port r20 er20) (.inr (zO (zF zL zP) zb)) ?_
  refine fA ?_
  refine mC zD 24 ?_
  refine dE (tI 3) (.slot 7) [(0,(y11.toNat))] 5 3 [cL 5 r3.2 Out.row] (Out.row v16) (zQ rfl (zY ev16).2) ?_
  refine fA ?_
  refine mA zD [(30,[]),(31,[]),(32,[])] 47 [⟨[29],39,129,130⟩,⟨[13,15,29],39,114,115⟩] fun cx => ?_
  refine sA_ 0x106000c00000000000000000000000074f8 104 ⟨228,0,[sB 136 (v16.F.Tag != r20),sR 130 3 11 4 2 true,sA 129 3 11 4,sR 115 3 11 4 2 true,sA 114 3 11 4,sI 14 v16.Port,sI 13 y11,sI 12 r9,sI 10 r8.1,sC 7 (cL 5 r3.2 Out.row),sA 6 6 11 0,sI 4 r2.2.1,sA 5 5 4 0,sA 3 3 11 0],[(6,(zA.row r3.1)),(5,(Frame.row r2.2.2)),(3,(zA.row r2.1))]⟩ ?_
  rw [h16]
  refine mA zD [(33,[]),(34,[])] 45 [⟨[29],39,129,130⟩,⟨[13,15,29],39,114,115⟩] fun cx => ?_
  refine oN zD 35 Out.row ev16 fun cx => ?_
  refine mA zD [(36,[]),(37,[]),(39,[]),(40,[])] 40 [⟨[],3,143,144⟩,⟨[29],39,129,130⟩,⟨[13,15,29],39,114,115⟩] fun cx => ?_
  refine mC zD 38 ?_
  refine dE (tI 3) (.slot 7) [(0,(y11.toNat))] 5 1 [cL 5 r3.2 Out.row] (Out.row v16) (zQ rfl (zY ev16).2) ?_
  refine fA ?_
  refine mA zD [(41,[]),(42,[]),(43,[])] 36 [⟨[],3,143,144⟩,⟨[29],39,129,130⟩,⟨[13,15,29],39,114,115⟩] fun cx => ?_
  refine sA_ 0x98006000c00000000000000000000000074f8 104 ⟨228,0,[sB 147 (v16.F.Dst != r2.2.2.Dst),sI 144 r2.2.2.Dst,sA 143 5 4 0,sR 130 3 11 4 2 true,sA 129 3 11 4,sR 115 3 11 4 2 true,sA 114 3 11 4,sI 14 v16.Port,sI 13 y11,sI 12 r9,sI 10 r8.1,sC 7 (cL 5 r3.2 Out.row),sA 6 6 11 0,sI 4 r2.2.1,sA 5 5 4 0,sA 3 3 11 0],[(6,(zA.row r3.1)),(5,(Frame.row r2.2.2)),(3,(zA.row r2.1))]⟩ ?_
  rw [h17]
  refine mA zD [(44,[]),(45,[]),(46,[]),(47,[]),(48,[]),(49,[]),(50,[]),(51,[]),(52,[]),(53,[]),(54,[]),(55,[]),(56,[]),(57,[]),(58,[]),(59,[]),(60,[]),(61,[]),(62,[]),(63,[]),(64,[]),(65,[]),(66,[]),(67,[]),(68,[]),(69,[]),(70,[]),(71,[]),(72,[]),(73,[]),(74,[]),(75,[]),(76,[]),(77,[]),(78,[]),(79,[])] 0 [⟨[],3,143,144⟩,⟨[29],39,129,130⟩,⟨[13,15,29],39,114,115⟩] fun cx => ?_
  exact mE zD [183,13,12,10,7,6,4,5,3] [6,5,3]
theorem zFv (n : Nat) (v16 : Out) (r2 : zA × Int × Frame) (y11 : Int) (r9 : Int) (r8 : Int × Bool) (r3 : zA × (List Out)) (r17 : Bool) (r18 : Int) (r19 : Bool) (r20 : Int) (h13 : (v16.Port == r2.2.1) = false) (h14 : (!r17) = false) (er17 : (qM n r9 v16.Port) = some r17) (ev16 : (idx r3.2 y11) = some v16) (er18 : (qG n r2.1.V r8.1) = some r18) (er19 : (qM n r18 v16.Port) = some r19) (er20 : (qc n r2.1.V r8.1 v16.Port) = some r20) (h15 : (!r19) = false) (h16 : (v16.F.Tag != r20) = true) (cx : Cx) : AT Tryz.prog cx (rg Tryz.f6 16) [] 80 [] ⟨228,0,[sI 14 v16.Port,sI 13 y11,sI 12 r9,sI 10 r8.1,sC 7 (cL 5 r3.2 Out.row),sA 6 6 11 0,sI 4 r2.2.1,sA 5 5 4 0,sA 3 3 11 0],[(6,(zA.row r3.1)),(5,(Frame.row r2.2.2)),(3,(zA.row r2.1))]⟩ (fun s => s = ⟨228,0,[sB 183 true,sI 13 y11,sI 12 r9,sI 10 r8.1,sC 7 (cL 5 r3.2 Out.row),sA 6 6 11 0,sI 4 r2.2.1,sA 5 5 4 0,sA 3 3 11 0],[(6,(zA.row r3.1)),(5,(Frame.row r2.2.2)),(3,(zA.row r2.1))]⟩) := by
 refine mA zD [(0,[]),(1,[]),(2,[]),(3,[])] 76 [] fun cx => ?_
 refine sA_ 0x8000000000000000000000074f8 104 ⟨228,0,[sB 107 (v16.Port == r2.2.1),sI 14 v16.Port,sI 13 y11,sI 12 r9,sI 10 r8.1,sC 7 (cL 5 r3.2 Out.row),sA 6 6 11 0,sI 4 r2.2.1,sA 5 5 4 0,sA 3 3 11 0],[(6,(zA.row r3.1)),(5,(Frame.row r2.2.2)),(3,(zA.row r2.1))]⟩ ?_
 rw [h13]
 refine mA zD [(4,[]),(5,[])] 74 [] fun cx => ?_
 refine mC zD 6 ?_
 refine vA [.rd,.rd] (ZM n r9 v16.Port r17 er17) ?_
 refine fA ?_
 refine mA zD [(7,[]),(8,[]),(9,[])] 70 [] fun cx => ?_
 refine sA_ 0x200000000000000000000000074f8 104 ⟨228,0,[sB 113 (!r17),sI 14 v16.Port,sI 13 y11,sI 12 r9,sI 10 r8.1,sC 7 (cL 5 r3.2 Out.row),sA 6 6 11 0,sI 4 r2.2.1,sA 5 5 4 0,sA 3 3 11 0],[(6,(zA.row r3.1)),(5,(Frame.row r2.2.2)),(3,(zA.row r2.1))]⟩ ?_
 rw [h14]
 refine mA zD [(10,[]),(11,[13,15,29]),(12,[]),(14,[])] 66 [⟨[13,15,29],39,114,115⟩] fun cx => ?_
 refine mC zD 13 ?_
 refine vB [.rd,.rd] [.box 3] (Z6 n r2.1.V r8.1 r18 er18) (.inr (zO (zF zL zP) zb)) ?_
 refine fA ?_
 refine mC zD 15 ?_
 refine vA [.rd,.rd] (ZM n r18 v16.Port r19 er19) ?_
 refine fA ?_
 refine mA zD [(16,[]),(17,[]),(18,[])] 61 [⟨[13,15,29],39,114,115⟩] fun cx => ?_
 refine sA_ 0x40c00000000000000000000000074f8 104 ⟨228,0,[sB 122 (!r19),sR 115 3 11 4 2 true,sA 114 3 11 4,sI 14 v16.Port,sI 13 y11,sI 12 r9,sI 10 r8.1,sC 7 (cL 5 r3.2 Out.row),sA 6 6 11 0,sI 4 r2.2.1,sA 5 5 4 0,sA 3 3 11 0],[(6,(zA.row r3.1)),(5,(Frame.row r2.2.2)),(3,(zA.row r2.1))]⟩ ?_
 rw [h15]
 refine mA zD [(19,[]),(20,[])] 59 [⟨[13,15,29],39,114,115⟩] fun cx => ?_
 refine oN zD 21 Out.row ev16 fun cx => ?_
 refine mA zD [(22,[]),(23,[]),(25,[]),(26,[29]),(27,[]),(28,[])] 52 [⟨[29],39,129,130⟩,⟨[13,15,29],39,114,115⟩] fun cx => ?_
 refine mB2 tOk zD 24 29 kr (And.intro kr ?_) (And.intro kr ?_)
 ·refine dE (tI 3) (.slot 7) [(0,(y11.toNat))] 5 3 [cL 5 r3.2 Out.row] (Out.row v16) (zQ rfl (zY ev16).2) ?_
  refine fA ?_
  refine mC zD 29 ?_
  refine vB [.rd,.rd,.rd] [.box 3] (qb n r2.1.V r8.1 v16.Port r20 er20) (.inr (zO (zF zL zP) zb)) ?_
  refine fA ?_
  refine mA zD [(30,[]),(31,[]),(32,[])] 47 [⟨[29],39,129,130⟩,⟨[13,15,29],39,114,115⟩] fun cx => ?_
  refine sA_ 0x106000c00000000000000000000000074f8 104 ⟨228,0,[sB 136 (v16.F.Tag != r20),sR 130 3 11 4 2 true,sA 129 3 11 4,sR 115 3 11 4 2 true,sA 114 3 11 4,sI 14 v16.Port,sI 13 y11,sI 12 r9,sI 10 r8.1,sC 7 (cL 5 r3.2 Out.row),sA 6 6 11 0,sI 4 r2.2.1,sA 5 5 4 0,sA 3 3 11 0],[(6,(zA.row r3.1)),(5,(Frame.row r2.2.2)),(3,(zA.row r2.1))]⟩ ?_
  rw [h16]
  refine mA zD [(33,[]),(34,[]),(35,[]),(36,[]),(37,[]),(38,[]),(39,[]),(40,[]),(41,[]),(42,[]),(43,[]),(44,[]),(45,[]),(46,[]),(47,[]),(48,[]),(49,[]),(50,[]),(51,[]),(52,[]),(53,[]),(54,[]),(55,[]),(56,[]),(57,[]),(58,[]),(59,[]),(60,[]),(61,[]),(62,[]),(63,[]),(64,[]),(65,[]),(66,[]),(67,[]),(68,[]),(69,[]),(70,[]),(71,[]),(72,[]),(73,[]),(74,[]),(75,[]),(76,[]),(77,[]),(78,[]),(79,[])] 0 [⟨[29],39,129,130⟩,⟨[13,15,29],39,114,115⟩] fun cx => ?_
  exact mE zD [183,13,12,10,7,6,4,5,3] [6,5,3]
 ·refine vB [.rd,.rd,.rd] [.box 3] (qb n r2.1.V r8.1 v16.Port r20 er20) (.inr (zO (zF zL zP) zb)) ?_
  refine fA ?_
  refine mC zD 24 ?_
  refine dE (tI 3) (.slot 7) [(0,(y11.toNat))] 5 3 [cL 5 r3.2 Out.row] (Out.row v16) (zQ rfl (zY ev16).2) ?_
  refine fA ?_
  refine mA zD [(30,[]),(31,[]),(32,[])] 47 [⟨[29],39,129,130⟩,⟨[13,15,29],39,114,115⟩] fun cx => ?_
  refine sA_ 0x106000c00000000000000000000000074f8 104 ⟨228,0,[sB 136 (v16.F.Tag != r20),sR 130 3 11 4 2 true,sA 129 3 11 4,sR 115 3 11 4 2 true,sA 114 3 11 4,sI 14 v16.Port,sI 13 y11,sI 12 r9,sI 10 r8.1,sC 7 (cL 5 r3.2 Out.row),sA 6 6 11 0,sI 4 r2.2.1,sA 5 5 4 0,sA 3 3 11 0],[(6,(zA.row r3.1)),(5,(Frame.row r2.2.2)),(3,(zA.row r2.1))]⟩ ?_
  rw [h16]
  refine mA zD [(33,[]),(34,[]),(35,[]),(36,[]),(37,[]),(38,[]),(39,[]),(40,[]),(41,[]),(42,[]),(43,[]),(44,[]),(45,[]),(46,[]),(47,[]),(48,[]),(49,[]),(50,[]),(51,[]),(52,[]),(53,[]),(54,[]),(55,[]),(56,[]),(57,[]),(58,[]),(59,[]),(60,[]),(61,[]),(62,[]),(63,[]),(64,[]),(65,[]),(66,[]),(67,[]),(68,[]),(69,[]),(70,[]),(71,[]),(72,[]),(73,[]),(74,[]),(75,[]),(76,[]),(77,[]),(78,[]),(79,[])] 0 [⟨[29],39,129,130⟩,⟨[13,15,29],39,114,115⟩] fun cx => ?_
  exact mE zD [183,13,12,10,7,6,4,5,3] [6,5,3]
theorem zFw (n : Nat) (v16 : Out) (r2 : zA × Int × Frame) (y11 : Int) (r9 : Int) (r8 : Int × Bool) (r3 : zA × (List Out)) (r17 : Bool) (r18 : Int) (r19 : Bool) (h13 : (v16.Port == r2.2.1) = false) (h14 : (!r17) = false) (er17 : (qM n r9 v16.Port) = some r17) (er18 : (qG n r2.1.V r8.1) = some r18) (er19 : (qM n r18 v16.Port) = some r19) (h15 : (!r19) = true) (cx : Cx) : AT Tryz.prog cx (rg Tryz.f6 16) [] 80 [] ⟨228,0,[sI 14 v16.Port,sI 13 y11,sI 12 r9,sI 10 r8.1,sC 7 (cL 5 r3.2 Out.row),sA 6 6 11 0,sI 4 r2.2.1,sA 5 5 4 0,sA 3 3 11 0],[(6,(zA.row r3.1)),(5,(Frame.row r2.2.2)),(3,(zA.row r2.1))]⟩ (fun s => s = ⟨228,0,[sB 183 true,sI 13 y11,sI 12 r9,sI 10 r8.1,sC 7 (cL 5 r3.2 Out.row),sA 6 6 11 0,sI 4 r2.2.1,sA 5 5 4 0,sA 3 3 11 0],[(6,(zA.row r3.1)),(5,(Frame.row r2.2.2)),(3,(zA.row r2.1))]⟩) := by
 refine mA zD [(0,[]),(1,[]),(2,[]),(3,[])] 76 [] fun cx => ?_
 refine sA_ 0x8000000000000000000000074f8 104 ⟨228,0,[sB 107 (v16.Port == r2.2.1),sI 14 v16.Port,sI 13 y11,sI 12 r9,sI 10 r8.1,sC 7 (cL 5 r3.2 Out.row),sA 6 6 11 0,sI 4 r2.2.1,sA 5 5 4 0,sA 3 3 11 0],[(6,(zA.row r3.1)),(5,(Frame.row r2.2.2)),(3,(zA.row r2.1))]⟩ ?_
 rw [h13]
 refine mA zD [(4,[]),(5,[])] 74 [] fun cx => ?_
 refine mC zD 6 ?_
 refine vA [.rd,.rd] (ZM n r9 v16.Port r17 er17) ?_
 refine fA ?_
 refine mA zD [(7,[]),(8,[]),(9,[])] 70 [] fun cx => ?_
 refine sA_ 0x200000000000000000000000074f8 104 ⟨228,0,[sB 113 (!r17),sI 14 v16.Port,sI 13 y11,sI 12 r9,sI 10 r8.1,sC 7 (cL 5 r3.2 Out.row),sA 6 6 11 0,sI 4 r2.2.1,sA 5 5 4 0,sA 3 3 11 0],[(6,(zA.row r3.1)),(5,(Frame.row r2.2.2)),(3,(zA.row r2.1))]⟩ ?_
 rw [h14]
 refine mA zD [(10,[]),(11,[13,15]),(12,[]),(14,[])] 66 [⟨[13,15],39,114,115⟩] fun cx => ?_
 refine mC zD 13 ?_
 refine vB [.rd,.rd] [.box 3] (Z6 n r2.1.V r8.1 r18 er18) (.inr (zO (zF zL zP) zb)) ?_
 refine fA ?_
 refine mC zD 15 ?_
 refine vA [.rd,.rd] (ZM n r18 v16.Port r19 er19) ?_
 refine fA ?_
 refine mA zD [(16,[]),(17,[]),(18,[])] 61 [⟨[13,15],39,114,115⟩] fun cx => ?_
 refine sA_ 0x40c00000000000000000000000074f8 104 ⟨228,0,[sB 122 (!r19),sR 115 3 11 4 2 true,sA 114 3 11 4,sI 14 v16.Port,sI 13 y11,sI 12 r9,sI 10 r8.1,sC 7 (cL 5 r3.2 Out.row),sA 6 6 11 0,sI 4 r2.2.1,sA 5 5 4 0,sA 3 3 11 0],[(6,(zA.row r3.1)),(5,(Frame.row r2.2.2)),(3,(zA.row r2.1))]⟩ ?_
 rw [h15]
 refine mA zD [(19,[]),(20,[]),(21,[]),(22,[]),(23,[]),(24,[]),(25,[]),(26,[]),(27,[]),(28,[]),(29,[]),(30,[]),(31,[]),(32,[]),(33,[]),(34,[]),(35,[]),(36,[]),(37,[]),(38,[]),(39,[]),(40,[]),(41,[]),(42,[]),(43,[]),(44,[]),(45,[]),(46,[]),(47,[]),(48,[]),(49,[]),(50,[]),(51,[]),(52,[]),(53,[]),(54,[]),(55,[]),(56,[]),(57,[]),(58,[]),(59,[]),(60,[]),(61,[]),(62,[]),(63,[]),(64,[]),(65,[]),(66,[]),(67,[]),(68,[]),(69,[]),(70,[]),(71,[]),(72,[]),(73,[]),(74,[]),(75,[]),(76,[]),(77,[]),(78,[]),(79,[])] 0 [⟨[13,15],39,114,115⟩] fun cx => ?_
 exact mE zD [183,13,12,10,7,6,4,5,3] [6,5,3]
theorem zFx (n : Nat) (v16 : Out) (r2 : zA × Int × Frame) (y11 : Int) (r9 : Int) (r8 : Int × Bool) (r3 : zA × (List Out)) (r17 : Bool) (h13 : (v16.Port == r2.2.1) = false) (h14 : (!r17) = true) (er17 : (qM n r9 v16.Port) = some r17) (cx : Cx) : AT Tryz.prog cx (rg Tryz.f6 16) [] 80 [] ⟨228,0,[sI 14 v16.Port,sI 13 y11,sI 12 r9,sI 10 r8.1,sC 7 (cL 5 r3.2 Out.row),sA 6 6 11 0,sI 4 r2.2.1,sA 5 5 4 0,sA 3 3 11 0],[(6,(zA.row r3.1)),(5,(Frame.row r2.2.2)),(3,(zA.row r2.1))]⟩ (fun s => s = ⟨228,0,[sB 183 true,sI 13 y11,sI 12 r9,sI 10 r8.1,sC 7 (cL 5 r3.2 Out.row),sA 6 6 11 0,sI 4 r2.2.1,sA 5 5 4 0,sA 3 3 11 0],[(6,(zA.row r3.1)),(5,(Frame.row r2.2.2)),(3,(zA.row r2.1))]⟩) := by
 refine mA zD [(0,[]),(1,[]),(2,[]),(3,[])] 76 [] fun cx => ?_
 refine sA_ 0x8000000000000000000000074f8 104 ⟨228,0,[sB 107 (v16.Port == r2.2.1),sI 14 v16.Port,sI 13 y11,sI 12 r9,sI 10 r8.1,sC 7 (cL 5 r3.2 Out.row),sA 6 6 11 0,sI 4 r2.2.1,sA 5 5 4 0,sA 3 3 11 0],[(6,(zA.row r3.1)),(5,(Frame.row r2.2.2)),(3,(zA.row r2.1))]⟩ ?_
 rw [h13]
 refine mA zD [(4,[]),(5,[])] 74 [] fun cx => ?_
 refine mC zD 6 ?_
 refine vA [.rd,.rd] (ZM n r9 v16.Port r17 er17) ?_
 refine fA ?_
 refine mA zD [(7,[]),(8,[]),(9,[])] 70 [] fun cx => ?_
 refine sA_ 0x200000000000000000000000074f8 104 ⟨228,0,[sB 113 (!r17),sI 14 v16.Port,sI 13 y11,sI 12 r9,sI 10 r8.1,sC 7 (cL 5 r3.2 Out.row),sA 6 6 11 0,sI 4 r2.2.1,sA 5 5 4 0,sA 3 3 11 0],[(6,(zA.row r3.1)),(5,(Frame.row r2.2.2)),(3,(zA.row r2.1))]⟩ ?_
 rw [h14]
 refine mA zD [(10,[]),(11,[]),(12,[]),(13,[]),(14,[]),(15,[]),(16,[]),(17,[]),(18,[]),(19,[]),(20,[]),(21,[]),(22,[]),(23,[]),(24,[]),(25,[]),(26,[]),(27,[]),(28,[]),(29,[]),(30,[]),(31,[]),(32,[]),(33,[]),(34,[]),(35,[]),(36,[]),(37,[]),(38,[]),(39,[]),(40,[]),(41,[]),(42,[]),(43,[]),(44,[]),(45,[]),(46,[]),(47,[]),(48,[]),(49,[]),(50,[]),(51,[]),(52,[]),(53,[]),(54,[]),(55,[]),(56,[]),(57,[]),(58,[]),(59,[]),(60,[]),(61,[]),(62,[]),(63,[]),(64,[]),(65,[]),(66,[]),(67,[]),(68,[]),(69,[]),(70,[]),(71,[]),(72,[]),(73,[]),(74,[]),(75,[]),(76,[]),(77,[]),(78,[]),(79,[])] 0 [] fun cx => ?_
 exact mE zD [183,13,12,10,7,6,4,5,3] [6,5,3]
theorem zHl (n : Nat) (x0 : (List Int)) (r : Bool) (H : zAT n x0 = some r) : zK Tryz.prog 6 [.val false [.sl false 1 (CV.frzEs (x0.map zM))]] [.val false [.lit (.bool r)]] [] := by
 refine cW Tryz.func6 (fun g d => sl [g 0,sl [g 1] (cn 17 (sl [g 2] .ret) .skip),g 3,g 4,g 5,sl [g 6] (cn 52 (sl [g 7] .ret) .skip),g 8,g 9,sl [g 10] (cn 74 (sl [g 11] .ret) .skip),sl [g 12] (.block 0 (.loop (sl [sl [g 13] (cn 96 .skip (.exit 0)),.block 1 (sl [g 15,d 16] (cn 183 (sl [g 17] .ret) .skip))] (g 14)))),g 18,sl [g 19] (cn 214 (sl [g 20] .ret) .skip),g 21] .ret) [.tmp 2] fun cx => ?_
 unfold zAT at H
 refine gA 1 1 0 ?_
 refine tS ?_
 refine rA 1 ?_
 obtain ⟨r1,er1,H⟩ := bs H
 refine vA [.rd] (zJQ n x0 r1 er1) ?_
 refine dA 131073 0 ?_
 cases h1 : r1
 ·have H := zH h1 H
  refine nB_ ?_
  refine tK ?_
  refine rA 1 ?_
  obtain ⟨r2,er2,H⟩ := bs H
  refine vA [.rd] (zGk n x0 r2 er2) ?_
  refine LAt.movT tOk (ty := 85) (t := 20) (d := 18) (g := none) [(true,(zA.row r2.1)),(false,[cI r2.2.1]),(true,(Frame.row r2.2.2))] _ kr (.inl rfl) kr kr kr kr rfl ?_
  refine uA 8 56 40 ?_
  refine rA 3 ?_
  obtain ⟨r3,er3,H⟩ := bs H
  refine vB [.rd,.rd,.rd] [.box 3,.box 5] (zG7 n r2.1 r2.2.1 r2.2.2 r3 er3) (.inr (zO (zA.row_mine _) (zO (zF (Qm (Zu Out.row_mine _)) zP) zb))) ?_
  refine LAt.movT tOk (ty := 43) (t := 28) (d := 24) (g := none) [(true,(zA.row r3.1)),(false,[cL 5 r3.2 Out.row])] _ kr (.inl rfl) kr kr kr kr rfl ?_
  refine lA 4 ?_
  refine LAt.moveU (T := lk tab) (ty := 42) (x := (.tmp 30)) (d := 7) (g := none) false [cL 5 r3.2 Out.row] kr kr kr kr kr ?_
  refine dA 248 104 ?_
  refine rA 3 ?_
  obtain ⟨r4,er4,H⟩ := bs H
  refine vB [.rd,.rd,.rd] [.box 3,.box 5] (zHS n r2.1 r2.2.1 r2.2.2 r4 er4) (.inr (zO (zA.row_mine _) (zO (zF (Qm (Zu Out.row_mine _)) zP) zb))) ?_
  refine LAt.movT tOk (ty := 43) (t := 35) (d := 31) (g := none) [(true,(zA.row r4.1)),(false,[cL 5 r4.2 Out.row])] _ kr (.inl rfl) kr kr kr kr rfl ?_
  refine lA 4 ?_
  refine LAt.moveU (T := lk tab) (ty := 42) (x := (.tmp 37)) (d := 9) (g := none) false [cL 5 r4.2 Out.row] kr kr kr kr kr ?_
  refine dA 1016 360 ?_
  refine tS ?_
  refine rA 2 ?_
  obtain ⟨r5,er5,H⟩ := bs H
  refine vB [.rd,.rd] [.box 6,.box 8] (zFB n r3.1 r4.1 r5 er5) (.inr (zO (zF zL zP) zb)) ?_
  refine lA 2 ?_
  refine sL 4398046511864 104 ⟨228,0,[sB 42 (!r5),sC 9 (cL 5 r4.2 Out.row),sC 7 (cL 5 r3.2 Out.row),sA 6 6 11 0,sI 4 r2.2.1,sA 5 5 4 0,sA 3 3 11 0],[(6,(zA.row r3.1)),(5,(Frame.row r2.2.2)),(3,(zA.row r2.1))]⟩ ?_
  cases h2 : (!r5)
  ·have H := zH h2 H
   refine lA 2 ?_
   obtain ⟨r6,er6,H⟩ := bs H
   refine vB [.rd,.rd] [.slot 7,.slot 9] (zGg n r3.2 r4.2 r6 er6) (.inr (zO (zF zL zP) zb)) ?_
   refine lA 3 ?_
   refine sL 281474976710904 104 ⟨228,0,[sB 48 (!r6),sC 7 (cL 5 r3.2 Out.row),sA 6 6 11 0,sI 4 r2.2.1,sA 5 5 4 0,sA 3 3 11 0],[(6,(zA.row r3.1)),(5,(Frame.row r2.2.2)),(3,(zA.row r2.1))]⟩ ?_
   cases h3 : (!r6)
   ·have H := zH h3 H
    refine lA 1 ?_
    obtain ⟨r7,er7,H⟩ := bs H
    refine vB [.rd] [.box 6] (zDE n r3.1 r7 er7) (.inr (zO (zF zL zP) zb)) ?_
    refine uA 2 4503599627370744 104 ?_
    obtain ⟨h4,H⟩ | ⟨h4,H⟩ := bC H
    ·refine nA h4 ?_
     refine tK ?_
     refine rA 5 ?_
     obtain ⟨r8,er8,H⟩ := bs H
     refine vB [.rd,.rd,.rd] [.box 3] (zDS n r2.1.V r2.2.1 r2.2.2.Tag r8 er8) (.inr (zO (zF zL zP) (zO (zF zL zP) zb))) ?_
     refine LAt.movT tOk (ty := 88) (t := 59) (d := 53) (g := none) [(false,[cI r8.1]),(false,[cB r8.2])] _ kr (.inl rfl) kr kr kr kr rfl ?_
     refine uA 4 3320 104 ?_
     refine rA 4 ?_
     obtain ⟨r9,er9,H⟩ := bs H
     refine vB [.rd,.rd] [.box 3] (zFD n r2.1.Id r2.1.Ps r9 er9) (.inr (zO (zF zL zP) zb)) ?_
     refine uA 1 7416 104 ?_
     refine tS ?_
     refine tS ?_
     refine Tr.mid (ι := Bool) (fun v => ⟨228,0,[sB 74 v,sI 12 r9,sI 10 r8.1,sC 7 (cL 5 r3.2 Out.row),sA 6 6 11 0,sI 4 r2.2.1,sA 5 5 4 0,sA 3 3 11 0],[(6,(zA.row r3.1)),(5,(Frame.row r2.2.2)),(3,(zA.row r2.1))]⟩) (fun v => Zo n r2 r3 r8 r9 v = some r) ?_ ?_
     ·refine Tr.at ?_
      refine lA 3 ?_
      refine sL 0x2000000000000014f8 104 ⟨228,0,[sB 69 (!r8.2),sI 12 r9,sI 10 r8.1,sC 7 (cL 5 r3.2 Out.row),sA 6 6 11 0,sI 4 r2.2.1,sA 5 5 4 0,sA 3 3 11 0],[(6,(zA.row r3.1)),(5,(Frame.row r2.2.2)),(3,(zA.row r2.1))]⟩ ?_
      cases h24 : (!r8.2)
      ·have H := zH h24 H
       refine lA 2 ?_
       obtain ⟨r24,er24,H⟩ := bs H
       refine vA [.rd,.rd] (ZM n r9 r2.2.1 r24 er24) ?_
       refine uA 2 0x40000000000000014f8 104 ?_
       exact jA (!r24) H [74,12,10,7,6,4,5,3] [6,5,3]
      have H := zI h24 H
      refine uA 5 0x40000000000000014f8 104 ?_
      exact jA true H [74,12,10,7,6,4,5,3] [6,5,3]
     rintro y10 H
     have H : (Zo n r2 r3 r8 r9 y10) = some r := H
     unfold Zo at H
     cases h5 : y10
     ·have H := zH h5 H
      refine nB_ ?_
      refine tK ?_
      refine tS ?_
      refine gA 1 13560 104 ?_
      obtain ⟨o15,eo15,Ho15⟩ := bs H
      clear H
      refine Tr.mid (ι := Unit) (fun v => ⟨228,0,[sI 10 r8.1,sC 7 (cL 5 r3.2 Out.row),sA 6 6 11 0,sA 5 5 4 0,sA 3 3 11 0],[(6,(zA.row r3.1)),(5,(Frame.row r2.2.2)),(3,(zA.row r2.1))]⟩) (fun v => YP n r2 r3 r8 = some r) ?_ ?_
      ·refine tB ?_
       refine Tr.loop (ι := Nat × (Int)) (fun v => ⟨228,0,[sI 13 v.2,sI 12 r9,sI 10 r8.1,sC 7 (cL 5 r3.2 Out.row),sA 6 6 11 0,sI 4 r2.2.1,sA 5 5 4 0,sA 3 3 11 0],[(6,(zA.row r3.1)),(5,(Frame.row r2.2.2)),(3,(zA.row r2.1))]⟩) (fun v => ZI n v.1 r2 r3 r8 r9 v.2 = some o15) (fun v => v.1) (n,0) eo15 (St.sub_of [13,12,10,7,6,4,5,3] [6,5,3] kr) ?_
       rintro ⟨mo15,y11⟩ H
       have H : ZI n mo15 r2 r3 r8 r9 y11 = some o15 := H
       obtain _ | mo15 := mo15
       ·exact nN H
       rw [ZI] at H
       refine tS ?_
       refine rA 2 ?_
       refine kO r3.2 Out.row ?_
       refine uA 1 0x10000000000000000000034f8 104 ?_
       obtain ⟨h12,H⟩ | ⟨h12,H⟩ := bC H
       ·refine nA h12 ?_
        refine Tr.exit ?_
        refine aJ ?_
        obtain rfl := si H
        have H := Ho15
        dsimp only at H
        exact jA () H [10,7,6,5,3] [6,5,3]
       refine tA h12 ?_
       refine tK ?_
       refine tS ?_
       refine tB ?_
       refine rA 2 ?_
       obtain ⟨v16,ev16,H⟩ := bs H
       refine oA Out.row ev16 ?_
       refine lA 1 ?_
       refine dE (tI 3) (.slot 7) [(0,(y11.toNat))] 5 0 [cL 5 r3.2 Out.row] (Out.row v16) (zQ rfl (zY ev16).2) ?_
       refine uA 1 29944 104 ?_
       refine sT ⟨228,0,[sI 14 v16.Port,sI 13 y11,sI 12 r9,sI 10 r8.1,sC 7 (cL 5 r3.2 Out.row),sA 6 6 11 0,sI 4 r2.2.1,sA 5 5 4 0,sA 3 3 11 0],[(6,(zA.row r3.1)),(5,(Frame.row r2.2.2)),(3,(zA.row r2.1))]⟩ ?_
       cases h13 : (v16.Port == r2.2.1)
       ·have H := zH h13 H
        obtain ⟨r17,er17,H⟩ := bs H
        refine sT ⟨228,0,[sI 14 v16.Port,sI 13 y11,sI 12 r9,sI 10 r8.1,sC 7 (cL 5 r3.2 Out.row),sA 6 6 11 0,sI 4 r2.2.1,sA 5 5 4 0,sA 3 3 11 0],[(6,(zA.row r3.1)),(5,(Frame.row r2.2.2)),(3,(zA.row r2.1))]⟩ ?_
        cases h14 : (!r17)
        ·have H := zH h14 H
         obtain ⟨r18,er18,H⟩ := bs H
         obtain ⟨r19,er19,H⟩ := bs H
         refine sT ⟨228,0,[sI 14 v16.Port,sI 13 y11,sI 12 r9,sI 10 r8.1,sC 7 (cL 5 r3.2 Out.row),sA 6 6 11 0,sI 4 r2.2.1,sA 5 5 4 0,sA 3 3 11 0],[(6,(zA.row r3.1)),(5,(Frame.row r2.2.2)),(3,(zA.row r2.1))]⟩ ?_
         cases h15 : (!r19)
         ·have H := zH h15 H
          obtain ⟨r20,er20,H⟩ := bs H
          refine sT ⟨228,0,[sI 14 v16.Port,sI 13 y11,sI 12 r9,sI 10 r8.1,sC 7 (cL 5 r3.2 Out.row),sA 6 6 11 0,sI 4 r2.2.1,sA 5 5 4 0,sA 3 3 11 0],[(6,(zA.row r3.1)),(5,(Frame.row r2.2.2)),(3,(zA.row r2.1))]⟩ ?_
          cases h16 : (v16.F.Tag != r20)
          ·have H := zH h16 H
           refine sT ⟨228,0,[sI 14 v16.Port,sI 13 y11,sI 12 r9,sI 10 r8.1,sC 7 (cL 5 r3.2 Out.row),sA 6 6 11 0,sI 4 r2.2.1,sA 5 5 4 0,sA 3 3 11 0],[(6,(zA.row r3.1)),(5,(Frame.row r2.2.2)),(3,(zA.row r2.1))]⟩ ?_
           cases h17 : (v16.F.Dst != r2.2.2.Dst)
           ·have H := zH h17 H
            refine sT ⟨228,0,[sI 14 v16.Port,sI 13 y11,sI 12 r9,sI 10 r8.1,sC 7 (cL 5 r3.2 Out.row),sA 6 6 11 0,sI 4 r2.2.1,sA 5 5 4 0,sA 3 3 11 0],[(6,(zA.row r3.1)),(5,(Frame.row r2.2.2)),(3,(zA.row r2.1))]⟩ ?_
            cases h18 : (v16.F.Src != r2.2.2.Src)
            ·have H := zH h18 H
             obtain ⟨r21,er21,H⟩ := bs H
             refine sT ⟨228,0,[sI 14 v16.Port,sI 13 y11,sI 12 r9,sI 10 r8.1,sC 7 (cL 5 r3.2 Out.row),sA 6 6 11 0,sI 4 r2.2.1,sA 5 5 4 0,sA 3 3 11 0],[(6,(zA.row r3.1)),(5,(Frame.row r2.2.2)),(3,(zA.row r2.1))]⟩ ?_
             cases h19 : (!r21)
             ·have H := zH h19 H
              refine sT ⟨228,0,[sI 14 v16.Port,sI 13 y11,sI 12 r9,sI 10 r8.1,sC 7 (cL 5 r3.2 Out.row),sA 6 6 11 0,sI 4 r2.2.1,sA 5 5 4 0,sA 3 3 11 0],[(6,(zA.row r3.1)),(5,(Frame.row r2.2.2)),(3,(zA.row r2.1))]⟩ ?_
              cases h20 : (decide (y11 > 0))
              ·have H := zH h20 H
               refine sT ⟨228,0,[sI 14 v16.Port,sI 13 y11,sI 12 r9,sI 10 r8.1,sC 7 (cL 5 r3.2 Out.row),sA 6 6 11 0,sI 4 r2.2.1,sA 5 5 4 0,sA 3 3 11 0],[(6,(zA.row r3.1)),(5,(Frame.row r2.2.2)),(3,(zA.row r2.1))]⟩ ?_
               refine Tr.draws mixed 80 kr ⟨228,0,[sB 183 false,sI 13 y11,sI 12 r9,sI 10 r8.1,sC 7 (cL 5 r3.2 Out.row),sA 6 6 11 0,sI 4 r2.2.1,sA 5 5 4 0,sA 3 3 11 0],[(6,(zA.row r3.1)),(5,(Frame.row r2.2.2)),(3,(zA.row r2.1))]⟩ (zFq n v16 r2 y11 r9 r8 r3 r17 r18 r19 r20 r21 h13 h14 er17 ev16 er18 er19 er20 er21 h15 h16 h17 h18 h19 h20) ?_
               refine nB_ ?_
               refine tK ?_
               refine eA 3 13560 104 ?_
               exact jB mo15 (IntKind.wrap .i64 (y11 + 1)) H [13,12,10,7,6,4,5,3] [6,5,3]
              have H := zI h20 H
              obtain ⟨v22,ev22,H⟩ := bs H
              refine sT ⟨228,0,[sI 14 v16.Port,sI 13 y11,sI 12 r9,sI 10 r8.1,sC 7 (cL 5 r3.2 Out.row),sA 6 6 11 0,sI 4 r2.2.1,sA 5 5 4 0,sA 3 3 11 0],[(6,(zA.row r3.1)),(5,(Frame.row r2.2.2)),(3,(zA.row r2.1))]⟩ ?_
              refine Tr.draws mixed 80 kr ⟨228,0,[sB 183 (decide (v22.Port ≥ v16.Port)),sI 13 y11,sI 12 r9,sI 10 r8.1,sC 7 (cL 5 r3.2 Out.row),sA 6 6 11 0,sI 4 r2.2.1,sA 5 5 4 0,sA 3 3 11 0],[(6,(zA.row r3.1)),(5,(Frame.row r2.2.2)),(3,(zA.row r2.1))]⟩ (zFr n v16 r2 y11 r9 r8 r3 r17 r18 r19 r20 r21 v22 h13 h14 er17 ev16 er18 er19 er20 er21 h15 h16 h17 h18 h19 h20 ev22) ?_
              refine sT ⟨228,0,[sB 183 (decide (v22.Port ≥ v16.Port)),sI 13 y11,sI 12 r9,sI 10 r8.1,sC 7 (cL 5 r3.2 Out.row),sA 6 6 11 0,sI 4 r2.2.1,sA 5 5 4 0,sA 3 3 11 0],[(6,(zA.row r3.1)),(5,(Frame.row r2.2.2)),(3,(zA.row r2.1))]⟩ ?_
              cases h21 : (decide (v22.Port ≥ v16.Port))
              ·have H := zH h21 H
               refine nB_ ?_
               refine tK ?_
               refine eA 3 13560 104 ?_
               exact jB mo15 (IntKind.wrap .i64 (y11 + 1)) H [13,12,10,7,6,4,5,3] [6,5,3]
              have H := zI h21 H
              refine tB_ ?_
              refine gA 1 4 0 ?_
              refine te ?_
              obtain rfl := si H
              have H := Ho15
              dsimp only at H
              exact fF H
             have H := zI h19 H
             refine sT ⟨228,0,[sI 14 v16.Port,sI 13 y11,sI 12 r9,sI 10 r8.1,sC 7 (cL 5 r3.2 Out.row),sA 6 6 11 0,sI 4 r2.2.1,sA 5 5 4 0,sA 3 3 11 0],[(6,(zA.row r3.1)),(5,(Frame.row r2.2.2)),(3,(zA.row r2.1))]⟩ ?_
             refine Tr.draws mixed 80 kr ⟨228,0,[sB 183 true,sI 13 y11,sI 12 r9,sI 10 r8.1,sC 7 (cL 5 r3.2 Out.row),sA 6 6 11 0,sI 4 r2.2.1,sA 5 5 4 0,sA 3 3 11 0],[(6,(zA.row r3.1)),(5,(Frame.row r2.2.2)),(3,(zA.row r2.1))]⟩ (zFs n v16 r2 y11 r9 r8 r3 r17 r18 r19 r20 r21 h13 h14 er17 ev16 er18 er19 er20 er21 h15 h16 h17 h18 h19) ?_
             refine tB_ ?_
             refine gA 1 4 0 ?_
             refine te ?_
             obtain rfl := si H
             have H := Ho15
             dsimp only at H
             exact fF H
            have H := zI h18 H
            refine sT ⟨228,0,[sI 14 v16.Port,sI 13 y11,sI 12 r9,sI 10 r8.1,sC 7 (cL 5 r3.2 Out.row),sA 6 6 11 0,sI 4 r2.2.1,sA 5 5 4 0,sA 3 3 11 0],[(6,(zA.row r3.1)),(5,(Frame.row r2.2.2)),(3,(zA.row r2.1))]⟩ ?_
            refine Tr.draws mixed 80 kr ⟨228,0,[sB 183 true,sI 13 y11,sI 12 r9,sI 10 r8.1,sC 7 (cL 5 r3.2 Out.row),sA 6 6 11 0,sI 4 r2.2.1,sA 5 5 4 0,sA 3 3 11 0],[(6,(zA.row r3.1)),(5,(Frame.row r2.2.2)),(3,(zA.row r2.1))]⟩ (zFt n v16 r2 y11 r9 r8 r3 r17 r18 r19 r20 h13 h14 er17 ev16 er18 er19 er20 h15 h16 h17 h18) ?_
            refine tB_ ?_
            refine gA 1 4 0 ?_
            refine te ?_
            obtain rfl := si H
            have H := Ho15
            dsimp only at H
            exact fF H
           have H := zI h17 H
           refine sT ⟨228,0,[sI 14 v16.Port,sI 13 y11,sI 12 r9,sI 10 r8.1,sC 7 (cL 5 r3.2 Out.row),sA 6 6 11 0,sI 4 r2.2.1,sA 5 5 4 0,sA 3 3 11 0],[(6,(zA.row r3.1)),(5,(Frame.row r2.2.2)),(3,(zA.row r2.1))]⟩ ?_
           refine Tr.draws mixed 80 kr ⟨228,0,[sB 183 true,sI 13 y11,sI 12 r9,sI 10 r8.1,sC 7 (cL 5 r3.2 Out.row),sA 6 6 11 0,sI 4 r2.2.1,sA 5 5 4 0,sA 3 3 11 0],[(6,(zA.row r3.1)),(5,(Frame.row r2.2.2)),(3,(zA.row r2.1))]⟩ (zFu n v16 r2 y11 r9 r8 r3 r17 r18 r19 r20 h13 h14 er17 ev16 er18 er19 er20 h15 h16 h17) ?_
           refine tB_ ?_
           refine gA 1 4 0 ?_
           refine te ?_
           obtain rfl := si H
           have H := Ho15
           dsimp only at H
           exact fF H
          have H := zI h16 H
          refine sT ⟨228,0,[sI 14 v16.Port,sI 13 y11,sI 12 r9,sI 10 r8.1,sC 7 (cL 5 r3.2 Out.row),sA 6 6 11 0,sI 4 r2.2.1,sA 5 5 4 0,sA 3 3 11 0],[(6,(zA.row r3.1)),(5,(Frame.row r2.2.2)),(3,(zA.row r2.1))]⟩ ?_
          refine Tr.draws mixed 80 kr ⟨228,0,[sB 183 true,sI 13 y11,sI 12 r9,sI 10 r8.1,sC 7 (cL 5 r3.2 Out.row),sA 6 6 11 0,sI 4 r2.2.1,sA 5 5 4 0,sA 3 3 11 0],[(6,(zA.row r3.1)),(5,(Frame.row r2.2.2)),(3,(zA.row r2.1))]⟩ (zFv n v16 r2 y11 r9 r8 r3 r17 r18 r19 r20 h13 h14 er17 ev16 er18 er19 er20 h15 h16) ?_
          refine tB_ ?_
          refine gA 1 4 0 ?_
          refine te ?_
          obtain rfl := si H
          have H := Ho15
          dsimp only at H
          exact fF H
         have H := zI h15 H
         refine sT ⟨228,0,[sI 14 v16.Port,sI 13 y11,sI 12 r9,sI 10 r8.1,sC 7 (cL 5 r3.2 Out.row),sA 6 6 11 0,sI 4 r2.2.1,sA 5 5 4 0,sA 3 3 11 0],[(6,(zA.row r3.1)),(5,(Frame.row r2.2.2)),(3,(zA.row r2.1))]⟩ ?_
         refine Tr.draws mixed 80 kr ⟨228,0,[sB 183 true,sI 13 y11,sI 12 r9,sI 10 r8.1,sC 7 (cL 5 r3.2 Out.row),sA 6 6 11 0,sI 4 r2.2.1,sA 5 5 4 0,sA 3 3 11 0],[(6,(zA.row r3.1)),(5,(Frame.row r2.2.2)),(3,(zA.row r2.1))]⟩ (zFw n v16 r2 y11 r9 r8 r3 r17 r18 r19 h13 h14 er17 er18 er19 h15) ?_
         refine tB_ ?_
         refine gA 1 4 0 ?_
         refine te ?_
         obtain rfl := si H
         have H := Ho15
         dsimp only at H
         exact fF H
        have H := zI h14 H
        refine sT ⟨228,0,[sI 14 v16.Port,sI 13 y11,sI 12 r9,sI 10 r8.1,sC 7 (cL 5 r3.2 Out.row),sA 6 6 11 0,sI 4 r2.2.1,sA 5 5 4 0,sA 3 3 11 0],[(6,(zA.row r3.1)),(5,(Frame.row r2.2.2)),(3,(zA.row r2.1))]⟩ ?_
        refine Tr.draws mixed 80 kr ⟨228,0,[sB 183 true,sI 13 y11,sI 12 r9,sI 10 r8.1,sC 7 (cL 5 r3.2 Out.row),sA 6 6 11 0,sI 4 r2.2.1,sA 5 5 4 0,sA 3 3 11 0],[(6,(zA.row r3.1)),(5,(Frame.row r2.2.2)),(3,(zA.row r2.1))]⟩ (zFx n v16 r2 y11 r9 r8 r3 r17 h13 h14 er17) ?_
        refine tB_ ?_
        refine gA 1 4 0 ?_
        refine te ?_
        obtain rfl := si H
        have H := Ho15
        dsimp only at H
        exact fF H
       have H := zI h13 H
       refine Tr.draws mixed 80 kr ⟨228,0,[sB 183 true,sI 13 y11,sI 12 r9,sI 10 r8.1,sC 7 (cL 5 r3.2 Out.row),sA 6 6 11 0,sI 4 r2.2.1,sA 5 5 4 0,sA 3 3 11 0],[(6,(zA.row r3.1)),(5,(Frame.row r2.2.2)),(3,(zA.row r2.1))]⟩ (fun cx => ?_) ?_
       ·refine mA zD [(0,[]),(1,[]),(2,[]),(3,[])] 76 [] fun cx => ?_
        refine sA_ 0x8000000000000000000000074f8 104 ⟨228,0,[sB 107 (v16.Port == r2.2.1),sI 14 v16.Port,sI 13 y11,sI 12 r9,sI 10 r8.1,sC 7 (cL 5 r3.2 Out.row),sA 6 6 11 0,sI 4 r2.2.1,sA 5 5 4 0,sA 3 3 11 0],[(6,(zA.row r3.1)),(5,(Frame.row r2.2.2)),(3,(zA.row r2.1))]⟩ ?_
        rw [h13]
        refine mA zD [(4,[]),(5,[]),(6,[]),(7,[]),(8,[]),(9,[]),(10,[]),(11,[]),(12,[]),(13,[]),(14,[]),(15,[]),(16,[]),(17,[]),(18,[]),(19,[]),(20,[]),(21,[]),(22,[]),(23,[]),(24,[]),(25,[]),(26,[]),(27,[]),(28,[]),(29,[]),(30,[]),(31,[]),(32,[]),(33,[]),(34,[]),(35,[]),(36,[]),(37,[]),(38,[]),(39,[]),(40,[]),(41,[]),(42,[]),(43,[]),(44,[]),(45,[]),(46,[]),(47,[]),(48,[]),(49,[]),(50,[]),(51,[]),(52,[]),(53,[]),(54,[]),(55,[]),(56,[]),(57,[]),(58,[]),(59,[]),(60,[]),(61,[]),(62,[]),(63,[]),(64,[]),(65,[]),(66,[]),(67,[]),(68,[]),(69,[]),(70,[]),(71,[]),(72,[]),(73,[]),(74,[]),(75,[]),(76,[]),(77,[]),(78,[]),(79,[])] 0 [] fun cx => ?_
        exact mE zD [183,13,12,10,7,6,4,5,3] [6,5,3]
       refine tB_ ?_
       refine gA 1 4 0 ?_
       refine te ?_
       obtain rfl := si H
       have H := Ho15
       dsimp only at H
       exact fF H
      rintro _ H
      have H : (YP n r2 r3 r8) = some r := H
      unfold YP at H
      refine rA 5 ?_
      obtain ⟨r12,er12,H⟩ := bs H
      refine vB [.rd,.rd,.rd] [.box 6] (zCM n r3.1.F r8.1 r2.2.2.Dst r12 er12) (.inr (zO (zF zL zP) zb)) ?_
      refine uA 1 34024 104 ?_
      refine tS ?_
      refine Tr.mid (ι := Unit) (fun v => ⟨228,0,[sI 10 r8.1,sA 6 6 11 0,sA 5 5 4 0,sA 3 3 11 0],[(6,(zA.row r3.1)),(5,(Frame.row r2.2.2)),(3,(zA.row r2.1))]⟩) (fun v => ZH n r2 r3 r8 = some r) ?_ ?_
      ·refine rA 4 ?_
       refine sL 0x20000000000000000000000000000000000000000000084e8 104 ⟨228,0,[sB 193 (r2.2.2.Dst != 0),sI 15 r12,sI 10 r8.1,sC 7 (cL 5 r3.2 Out.row),sA 6 6 11 0,sA 5 5 4 0,sA 3 3 11 0],[(6,(zA.row r3.1)),(5,(Frame.row r2.2.2)),(3,(zA.row r2.1))]⟩ ?_
       cases h7 : (r2.2.2.Dst != 0)
       ·have H := zH h7 H
        refine uA 21 0x400000000000000000000000000000000000000000000000000468 104 ?_
        refine nB_ ?_
        refine tK ?_
        exact jA () H [10,6,5,3] [6,5,3]
       have H := zI h7 H
       refine lA 4 ?_
       refine sL 0x200000000000000000000000000000000000000000000084e8 104 ⟨228,0,[sB 197 (decide (r12 ≥ 0)),sI 15 r12,sI 10 r8.1,sC 7 (cL 5 r3.2 Out.row),sA 6 6 11 0,sA 5 5 4 0,sA 3 3 11 0],[(6,(zA.row r3.1)),(5,(Frame.row r2.2.2)),(3,(zA.row r2.1))]⟩ ?_
       cases h8 : (decide (r12 ≥ 0))
       ·have H := zH h8 H
        refine uA 17 0x400000000000000000000000000000000000000000000000000468 104 ?_
        refine nB_ ?_
        refine tK ?_
        exact jA () H [10,6,5,3] [6,5,3]
       have H := zI h8 H
       refine lA 1 ?_
       refine kO r3.2 Out.row ?_
       refine lA 2 ?_
       refine sL 0x2200000000000000000000000000000000000000000000084e8 104 ⟨228,0,[sB 201 (decide ((r3.2.length : Int) > 1)),sB 197 true,sI 15 r12,sI 10 r8.1,sC 7 (cL 5 r3.2 Out.row),sA 6 6 11 0,sA 5 5 4 0,sA 3 3 11 0],[(6,(zA.row r3.1)),(5,(Frame.row r2.2.2)),(3,(zA.row r2.1))]⟩ ?_
       cases h9 : (decide ((r3.2.length : Int) > 1))
       ·have H := zH h9 H
        refine lA 1 ?_
        refine kO r3.2 Out.row ?_
        refine lA 2 ?_
        refine sL 0x22200000000000000000000000000000000000000000000084e8 104 ⟨228,0,[sB 205 ((r3.2.length : Int) == 1),sB 201 false,sB 197 true,sI 15 r12,sI 10 r8.1,sC 7 (cL 5 r3.2 Out.row),sA 6 6 11 0,sA 5 5 4 0,sA 3 3 11 0],[(6,(zA.row r3.1)),(5,(Frame.row r2.2.2)),(3,(zA.row r2.1))]⟩ ?_
        cases h10 : ((r3.2.length : Int) == 1)
        ·have H := zH h10 H
         refine uA 9 0x400000000000000000000000000000000000000000000000000468 104 ?_
         refine nB_ ?_
         refine tK ?_
         exact jA () H [10,6,5,3] [6,5,3]
        have H := zI h10 H
        refine lA 1 ?_
        obtain ⟨v14,ev14,H⟩ := bs H
        refine oA Out.row ev14 ?_
        refine lA 1 ?_
        refine dE (tI 3) (.slot 7) [(0,(((0 : Int)).toNat))] 5 0 [cL 5 r3.2 Out.row] (Out.row v14) (zQ rfl (zY ev14).2) ?_
        refine uA 5 0x400000000000000000000000000000000000000000000000000468 104 ?_
        obtain ⟨h11,H⟩ | ⟨h11,H⟩ := bC H
        ·refine nA h11 ?_
         refine tK ?_
         exact jA () H [10,6,5,3] [6,5,3]
        refine tA h11 ?_
        refine gA 1 4 0 ?_
        exact te (fF H)
       have H := zI h9 H
       refine uA 13 0x400000000000000000000000000000000000000000000000000468 104 ?_
       refine tB_ ?_
       refine gA 1 4 0 ?_
       exact te (fF H)
      rintro _ H
      have H : (ZH n r2 r3 r8) = some r := H
      unfold ZH at H
      refine rA 5 ?_
      obtain ⟨r13,er13,H⟩ := bs H
      refine vB [.rd,.rd,.rd] [.box 6] (zCM n r3.1.F r8.1 r2.2.2.Src r13 er13) (.inr (zO (zF zL zP) zb)) ?_
      refine lA 2 ?_
      refine sL 0x40000000000000000000000000000000000000000000000000000008 8 ⟨228,0,[sB 222 (decide (r13 ≥ 0)),sA 3 3 11 0],[(3,(zA.row r2.1))]⟩ ?_
      cases h6 : (decide (r13 ≥ 0))
      ·have H := zH h6 H
       refine lA 2 ?_
       refine kO r2.1.F zB.row ?_
       refine uA 3 4 0 ?_
       exact te (fJ [(false,[cB ((r2.1.F.length : Int) == 12)])] H)
      have H := zI h6 H
      refine uA 6 4 0 ?_
      exact te (fT H)
     have H := zI h5 H
     refine tB_ ?_
     refine rA 1 ?_
     refine kO r3.2 Out.row ?_
     refine lA 2 ?_
     refine sL 0x40000000000000000048 72 ⟨228,0,[sB 78 ((r3.2.length : Int) == 0),sA 6 6 11 0,sA 3 3 11 0],[(6,(zA.row r3.1)),(3,(zA.row r2.1))]⟩ ?_
     cases h22 : ((r3.2.length : Int) == 0)
     ·have H := zH h22 H
      refine uA 15 4 0 ?_
      exact te (fF H)
     have H := zI h22 H
     refine lA 8 ?_
     refine sL 0x4000000000000000000048 72 ⟨228,0,[sB 86 (r3.1.Dr == (IntKind.wrap .i64 (r2.1.Dr + 1))),sA 6 6 11 0,sA 3 3 11 0],[(6,(zA.row r3.1)),(3,(zA.row r2.1))]⟩ ?_
     cases h23 : (r3.1.Dr == (IntKind.wrap .i64 (r2.1.Dr + 1)))
     ·have H := zH h23 H
      refine uA 7 4 0 ?_
      exact te (fF H)
     have H := zI h23 H
     refine lA 4 ?_
     obtain ⟨r23,er23,H⟩ := bs H
     refine vB [.rd,.rd] [.box 6,.box 3] (zHC n r3.1.F r2.1.F r23 er23) (.inr (zO (zF zL zP) zb)) ?_
     refine uA 2 4 0 ?_
     exact te (fJ [(false,[cB r23])] H)
    refine tA h4 ?_
    refine gA 1 4 0 ?_
    exact te (fF H)
   have H := zI h3 H
   refine uA 4 4503599627370744 104 ?_
   refine tB_ ?_
   refine gA 1 4 0 ?_
   exact te (fF H)
  have H := zI h2 H
  refine uA 10 4503599627370744 104 ?_
  refine tB_ ?_
  refine gA 1 4 0 ?_
  exact te (fF H)
 have H := zI h1 H
 refine tB_ ?_
 refine gA 1 4 0 ?_
 exact te (fT H)
end Go.Proofs.YtcegokjpmppdbaaGreat.Tw
