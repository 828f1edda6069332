import Derived.Test.YtcegokjpmppdbaaGreatProg
import Derived.Test.YtcegokjpmppdbaaGreatTlRule
import Derived.Test.YtcegokjpmppdbaaGreatTlU12
import Derived.Test.YtcegokjpmppdbaaGreatTwSS2
import Derived.WalkKit
set_option linter.unusedVariables false
set_option linter.unusedSimpArgs false
set_option maxRecDepth 100000
set_option maxHeartbeats 1000000
namespace Go.Proofs.YtcegokjpmppdbaaGreat.Tw
open Go Go.TL Go.Proofs
def Yx (n : Nat) (y4 : (List Event)) (y5 : Int) : Option (Int × (List Event)) :=
  (some (y5,y4))
def qk (n : Nat) : Nat → Int → (List Event) → Int → Option (((List Event) × Int) ⊕ (Int × (List Event)))
  | 0,_,_,_ => none
  | mo6 + 1,y1,y2,y3 => (bif (decide (y1 < (y2.length : Int))) then ((idx y2 y1).bind fun v7 => ((idx (y2.set (y1.toNat) (⟨y3,v7.At⟩ : Event)) y1).bind fun v8 => (qk n mo6 (IntKind.wrap .i64 (y1 + 1)) ((y2.set (y1.toNat) (⟨y3,v7.At⟩ : Event)).set (y1.toNat) (⟨v8.Ki,(IntKind.wrap .i64 (y3 + 1))⟩ : Event)) (IntKind.wrap .i64 ((IntKind.wrap .i64 (y3 + 1)) + 1))))) else (some (Sum.inl (y2,y3))))
def YN (n : Nat) (x0 : (List Event)) (x1 : Int) : Option (Int × (List Event)) :=
  ((qk n n 0 x0 x1).bind fun o => match o with | .inl (y4,y5) => (Yx n y4 y5) | .inr r => some r)
noncomputable abbrev G36 (k : Nat) := Rg Tryz.f36 k
theorem zIH (n : Nat) (x0 : (List Event)) (x1 : Int) (r : Int × (List Event)) (H : YN n x0 x1 = some r) : zD Tryz.prog 36 [.io false [.sl true 2 (x0.map Event.row)],.val false [.lit (.int .i64 x1)]] [.val false [.lit (.int .i64 r.1)]] [(0,[.sl true 2 (r.2.map Event.row)])] := by
 refine zD.of_body tOk Tryz.func36 rfl (c := (.seq (G36 0) (.seq (.seq (G36 1) (.block 0 (.loop (.seq (.seq (G36 2) (.cond (.tmp 9) .skip (.exit 0))) (.seq (.block 1 (.seq (G36 4) (.seq (G36 5) (.seq (G36 6) (G36 7))))) (G36 3)))))) (.seq (G36 8) .ret)))) kr (Nat.le_of_ble_eq_true kr) 1 (rs := [.tmp 4]) rfl [0] (by decide) [(false,[.lit (.int .i64 r.1)])] [[.sl true 2 (r.2.map Event.row)]] [] fun cx => ?_
 show Tr _ _ _ ⟨27,1,[sC 0 (cL 2 x0 Event.row),sI 1 x1],[]⟩ _
 unfold YN at H
 refine gA 1 3 0 ?_
 refine tS ?_
 refine gA 1 35 0 ?_
 obtain ⟨o6,eo6,Ho6⟩ := bs H
 clear H
 refine Tr.mid (ι := (List Event) × Int) (fun v => ⟨27,1,[sC 0 (cL 2 v.1 Event.row),sI 1 v.2],[]⟩) (fun v => Yx n v.1 v.2 = some r) ?_ ?_
 ·refine tB ?_
  refine Tr.loop (ι := Nat × (Int × (List Event) × Int)) (fun v => ⟨27,1,[sI 5 v.2.1,sC 0 (cL 2 v.2.2.1 Event.row),sI 1 v.2.2.2],[]⟩) (fun v => qk n v.1 v.2.1 v.2.2.1 v.2.2.2 = some o6) (fun v => v.1) (n,(0,x0,x1)) eo6 (St.sub_of [5,0,1] [] kr) ?_
  rintro ⟨mo6,y1,y2,y3⟩ H
  have H : qk n mo6 y1 y2 y3 = some o6 := H
  obtain _ | mo6 := mo6
  ·exact nN H
  rw [qk] at H
  refine tS ?_
  refine rA 2 ?_
  refine kO y2 Event.row ?_
  refine uA 1 547 0 ?_
  obtain ⟨h1,H⟩ | ⟨h1,H⟩ := bC H
  ·refine nA h1 ?_
   refine Tr.exit ?_
   refine aJ ?_
   obtain rfl := si H
   have H := Ho6
   dsimp only at H
   exact jA (y2,y3) H [0,1] []
  refine tA h1 ?_
  refine tK ?_
  refine tS ?_
  refine tB ?_
  refine rA 3 ?_
  obtain ⟨v7,ev7,H⟩ := bs H
  refine oA Event.row ev7 ?_
  refine lA 1 ?_
  refine sS (tI 3) false [cI y3] 0 0 (y1.toNat) 2 0 2 Event.row (⟨y3,v7.At⟩ : Event) (zI ev7).2 ?_
  refine dA 35 0 ?_
  refine gA 3 35 0 ?_
  refine rA 3 ?_
  obtain ⟨v8,ev8,H⟩ := bs H
  refine oA Event.row ev8 ?_
  refine lA 1 ?_
  refine sS (tI 3) false [cI (IntKind.wrap .i64 (y3 + 1))] 0 0 (y1.toNat) 2 1 2 Event.row (⟨v8.Ki,(IntKind.wrap .i64 (y3 + 1))⟩ : Event) (zI ev8).2 ?_
  refine dA 35 0 ?_
  refine eA 3 35 0 ?_
  refine eA 3 35 0 ?_
  exact jB mo6 ((IntKind.wrap .i64 (y1 + 1)),((y2.set (y1.toNat) (⟨y3,v7.At⟩ : Event)).set (y1.toNat) (⟨v8.Ki,(IntKind.wrap .i64 (y3 + 1))⟩ : Event)),(IntKind.wrap .i64 ((IntKind.wrap .i64 (y3 + 1)) + 1))) H [5,0,1] []
 rintro ⟨y4,y5⟩ H
 have H : (Yx n y4 y5) = some r := H
 unfold Yx at H
 refine gA 2 17 0 ?_
 refine te ?_
 obtain rfl := si H
 exact Fin.ofY _ [(false,[cI y5])] [false] _ [[cL 2 y4 Event.row]] _ [] kr rfl rfl rfl kr kr kr kr rfl rfl rfl
def zAY (n : Nat) (y3 : Int) : Option (Int) :=
  (some y3)
def ZQ (n : Nat) : Nat → (List Pt) → Int → Int → Option ((Int) ⊕ (Int))
  | 0,_,_,_ => none
  | mo4 + 1,x0,y1,y2 => (bif (decide (y1 < (x0.length : Int))) then ((idx x0 y1).bind fun v5 => (bif (decide ((3 : Int) ≠ 0)) then (bif (!(v5.Up == ((Int.tmod y2 3) == 0))) then (some (Sum.inr (-1))) else ((idx x0 y1).bind fun v7 => (bif (v7.Co != (IntKind.wrap .i64 (y2 + 1))) then (some (Sum.inr (-1))) else ((idx x0 y1).bind fun v8 => (bif (decide ((3 : Int) ≠ 0)) then (bif (!(v8.Has == ((Int.tmod (IntKind.wrap .i64 ((IntKind.wrap .i64 (y2 + 1)) + 1)) 3) == 0))) then (some (Sum.inr (-1))) else ((idx x0 y1).bind fun v10 => (bif (v10.Hd.Root != (IntKind.wrap .i64 ((IntKind.wrap .i64 ((IntKind.wrap .i64 (y2 + 1)) + 1)) + 1))) then (some (Sum.inr (-1))) else ((idx x0 y1).bind fun v11 => (bif (v11.Hd.Co != (IntKind.wrap .i64 ((IntKind.wrap .i64 ((IntKind.wrap .i64 ((IntKind.wrap .i64 (y2 + 1)) + 1)) + 1)) + 1))) then (some (Sum.inr (-1))) else ((idx x0 y1).bind fun v12 => (bif (v12.Hd.Hops != (IntKind.wrap .i64 ((IntKind.wrap .i64 ((IntKind.wrap .i64 ((IntKind.wrap .i64 ((IntKind.wrap .i64 (y2 + 1)) + 1)) + 1)) + 1)) + 1))) then (some (Sum.inr (-1))) else ((idx x0 y1).bind fun v13 => (bif (v13.Hd.Bridge != (IntKind.wrap .i64 ((IntKind.wrap .i64 ((IntKind.wrap .i64 ((IntKind.wrap .i64 ((IntKind.wrap .i64 ((IntKind.wrap .i64 (y2 + 1)) + 1)) + 1)) + 1)) + 1)) + 1))) then (some (Sum.inr (-1))) else ((idx x0 y1).bind fun v14 => (bif (v14.Hd.Port != (IntKind.wrap .i64 ((IntKind.wrap .i64 ((IntKind.wrap .i64 ((IntKind.wrap .i64 ((IntKind.wrap .i64 ((IntKind.wrap .i64 ((IntKind.wrap .i64 (y2 + 1)) + 1)) + 1)) + 1)) + 1)) + 1)) + 1))) then (some (Sum.inr (-1))) else (ZQ n mo4 x0 (IntKind.wrap .i64 (y1 + 1)) (IntKind.wrap .i64 ((IntKind.wrap .i64 ((IntKind.wrap .i64 ((IntKind.wrap .i64 ((IntKind.wrap .i64 ((IntKind.wrap .i64 ((IntKind.wrap .i64 ((IntKind.wrap .i64 (y2 + 1)) + 1)) + 1)) + 1)) + 1)) + 1)) + 1)) + 1)))))))))))))) else none))))) else none)) else (some (Sum.inl y2)))
def zAC (n : Nat) (x0 : (List Pt)) (x1 : Int) : Option (Int) :=
  ((ZQ n n x0 0 x1).bind fun o => match o with | .inl y3 => (zAY n y3) | .inr r => some r)
theorem zKg (n : Nat) (x0 : (List Pt)) (x1 : Int) (r : Int) (H : zAC n x0 x1 = some r) : zD Tryz.prog 99 [.val false [.sl false 8 (CV.frzEs (x0.map Pt.row))],.val false [.lit (.int .i64 x1)]] [.val false [.lit (.int .i64 r)]] [] := by
 refine cW Tryz.func99 (fun g d => sl [g 0,sl [g 1] (.block 0 (.loop (sl [sl [g 2] (cn 9 .skip (.exit 0)),.block 1 (sl [sl [g 4] (cn 20 (sl [g 5] .ret) .skip),g 6,sl [g 7] (cn 29 (sl [g 8] .ret) .skip),g 9,sl [g 10] (cn 40 (sl [g 11] .ret) .skip),g 12,sl [g 13] (cn 50 (sl [g 14] .ret) .skip),g 15,sl [g 16] (cn 60 (sl [g 17] .ret) .skip),g 18,sl [g 19] (cn 70 (sl [g 20] .ret) .skip),g 21,sl [g 22] (cn 80 (sl [g 23] .ret) .skip),g 24,sl [g 25] (cn 90 (sl [g 26] .ret) .skip)] (g 27))] (g 3)))),g 28] .ret) [.tmp 4] fun cx => ?_
 unfold zAC at H
 refine gA 1 3 0 ?_
 refine tS ?_
 refine gA 1 35 0 ?_
 obtain ⟨o4,eo4,Ho4⟩ := bs H
 clear H
 refine Tr.mid (ι := Int) (fun v => ⟨94,0,[sI 1 v],[]⟩) (fun v => zAY n v = some r) ?_ ?_
 ·refine tB ?_
  refine Tr.loop (ι := Nat × (Int × Int)) (fun v => ⟨94,0,[sI 5 v.2.1,sC 0 (cF 8 x0 Pt.row),sI 1 v.2.2],[]⟩) (fun v => ZQ n v.1 x0 v.2.1 v.2.2 = some o4) (fun v => v.1) (n,(0,x1)) eo4 (St.sub_of [5,0,1] [] kr) ?_
  rintro ⟨mo4,y1,y2⟩ H
  have H : ZQ n mo4 x0 y1 y2 = some o4 := H
  obtain _ | mo4 := mo4
  ·exact nN H
  rw [ZQ] at H
  refine tS ?_
  refine rA 2 ?_
  refine kF x0 Pt.row ?_
  refine uA 1 547 0 ?_
  obtain ⟨h1,H⟩ | ⟨h1,H⟩ := bC H
  ·refine nA h1 ?_
   refine Tr.exit ?_
   refine aJ ?_
   obtain rfl := si H
   have H := Ho4
   dsimp only at H
   exact jA y2 H [1] []
  refine tA h1 ?_
  refine tK ?_
  refine tS ?_
  refine tB ?_
  refine tS ?_
  refine rA 2 ?_
  obtain ⟨v5,ev5,H⟩ := bs H
  refine iA Pt.row ev5 ?_
  refine lA 3 ?_
  obtain ⟨hg6,H⟩ := gs H
  refine LAt.binC tOk (op := .rem) (t := 3) (ty := 3) (ty' := 3) (x := (.tmp 17)) (y := (.const (.int .i64 3))) (d := 18) (g := none) (.int .i64 y2) (.int .i64 3) (.int .i64 (Int.tmod y2 3)) _ kr kr kr kr kr (φ := (IntKind.i64 = IntKind.i64 ∧ (3 : Int) ≠ 0)) kr (⟨rfl,of_decide_eq_true hg6⟩) rfl ?_
  refine uA 2 1048611 0 ?_
  obtain ⟨h2,H⟩ | ⟨h2,H⟩ := bC H
  ·refine nA h2 ?_
   refine tK ?_
   refine gA 3 35 0 ?_
   refine tS ?_
   refine rA 2 ?_
   obtain ⟨v7,ev7,H⟩ := bs H
   refine iA Pt.row ev7 ?_
   refine uA 4 536870947 0 ?_
   obtain ⟨h3,H⟩ | ⟨h3,H⟩ := bC H
   ·refine nA h3 ?_
    refine tK ?_
    refine gA 3 35 0 ?_
    refine tS ?_
    refine rA 2 ?_
    obtain ⟨v8,ev8,H⟩ := bs H
    refine iA Pt.row ev8 ?_
    refine lA 3 ?_
    obtain ⟨hg9,H⟩ := gs H
    refine LAt.binC tOk (op := .rem) (t := 3) (ty := 3) (ty' := 3) (x := (.tmp 37)) (y := (.const (.int .i64 3))) (d := 38) (g := none) (.int .i64 (IntKind.wrap .i64 ((IntKind.wrap .i64 (y2 + 1)) + 1))) (.int .i64 3) (.int .i64 (Int.tmod (IntKind.wrap .i64 ((IntKind.wrap .i64 (y2 + 1)) + 1)) 3)) _ kr kr kr kr kr (φ := (IntKind.i64 = IntKind.i64 ∧ (3 : Int) ≠ 0)) kr (⟨rfl,of_decide_eq_true hg9⟩) rfl ?_
    refine uA 2 1099511627811 0 ?_
    refine sT ⟨94,0,[sB 40 (!(v8.Has == ((Int.tmod (IntKind.wrap .i64 ((IntKind.wrap .i64 (y2 + 1)) + 1)) 3) == 0))),sI 1 (IntKind.wrap .i64 ((IntKind.wrap .i64 (y2 + 1)) + 1)),sI 5 y1,sC 0 (cF 8 x0 Pt.row)],[]⟩ ?_
    cases h4 : (!(v8.Has == ((Int.tmod (IntKind.wrap .i64 ((IntKind.wrap .i64 (y2 + 1)) + 1)) 3) == 0)))
    ·have H := zG h4 H
     refine nB_ ?_
     refine tK ?_
     refine gA 3 35 0 ?_
     refine tS ?_
     refine rA 2 ?_
     obtain ⟨v10,ev10,H⟩ := bs H
     refine iA Pt.row ev10 ?_
     refine uA 5 0x4000000000023 0 ?_
     obtain ⟨h5,H⟩ | ⟨h5,H⟩ := bC H
     ·refine nA h5 ?_
      refine tK ?_
      refine gA 3 35 0 ?_
      refine tS ?_
      refine rA 2 ?_
      obtain ⟨v11,ev11,H⟩ := bs H
      refine iA Pt.row ev11 ?_
      refine uA 5 0x1000000000000023 0 ?_
      obtain ⟨h6,H⟩ | ⟨h6,H⟩ := bC H
      ·refine nA h6 ?_
       refine tK ?_
       refine gA 3 35 0 ?_
       refine tS ?_
       refine rA 2 ?_
       obtain ⟨v12,ev12,H⟩ := bs H
       refine iA Pt.row ev12 ?_
       refine uA 5 0x400000000000000023 0 ?_
       obtain ⟨h7,H⟩ | ⟨h7,H⟩ := bC H
       ·refine nA h7 ?_
        refine tK ?_
        refine gA 3 35 0 ?_
        refine tS ?_
        refine rA 2 ?_
        obtain ⟨v13,ev13,H⟩ := bs H
        refine iA Pt.row ev13 ?_
        refine uA 5 0x100000000000000000023 0 ?_
        refine sT ⟨94,0,[sB 80 (v13.Hd.Bridge != (IntKind.wrap .i64 ((IntKind.wrap .i64 ((IntKind.wrap .i64 ((IntKind.wrap .i64 ((IntKind.wrap .i64 ((IntKind.wrap .i64 (y2 + 1)) + 1)) + 1)) + 1)) + 1)) + 1))),sI 1 (IntKind.wrap .i64 ((IntKind.wrap .i64 ((IntKind.wrap .i64 ((IntKind.wrap .i64 ((IntKind.wrap .i64 ((IntKind.wrap .i64 (y2 + 1)) + 1)) + 1)) + 1)) + 1)) + 1)),sI 5 y1,sC 0 (cF 8 x0 Pt.row)],[]⟩ ?_
        cases h8 : (v13.Hd.Bridge != (IntKind.wrap .i64 ((IntKind.wrap .i64 ((IntKind.wrap .i64 ((IntKind.wrap .i64 ((IntKind.wrap .i64 ((IntKind.wrap .i64 (y2 + 1)) + 1)) + 1)) + 1)) + 1)) + 1)))
        ·have H := zG h8 H
         refine nB_ ?_
         refine tK ?_
         refine gA 3 35 0 ?_
         refine tS ?_
         refine rA 2 ?_
         obtain ⟨v14,ev14,H⟩ := bs H
         refine iA Pt.row ev14 ?_
         refine uA 5 0x40000000000000000000023 0 ?_
         obtain ⟨h9,H⟩ | ⟨h9,H⟩ := bC H
         ·refine nA h9 ?_
          refine tK ?_
          refine eA 3 35 0 ?_
          refine eA 3 35 0 ?_
          exact jB mo4 ((IntKind.wrap .i64 (y1 + 1)),(IntKind.wrap .i64 ((IntKind.wrap .i64 ((IntKind.wrap .i64 ((IntKind.wrap .i64 ((IntKind.wrap .i64 ((IntKind.wrap .i64 ((IntKind.wrap .i64 ((IntKind.wrap .i64 (y2 + 1)) + 1)) + 1)) + 1)) + 1)) + 1)) + 1)) + 1))) H [5,0,1] []
         refine tA h9 ?_
         refine gA 1 16 0 ?_
         refine te ?_
         obtain rfl := si H
         have H := Ho4
         dsimp only at H
         exact fJ [(false,[cI (-1)])] H
        have H := zH h8 H
        refine tB_ ?_
        refine gA 1 16 0 ?_
        refine te ?_
        obtain rfl := si H
        have H := Ho4
        dsimp only at H
        exact fJ [(false,[cI (-1)])] H
       refine tA h7 ?_
       refine gA 1 16 0 ?_
       refine te ?_
       obtain rfl := si H
       have H := Ho4
       dsimp only at H
       exact fJ [(false,[cI (-1)])] H
      refine tA h6 ?_
      refine gA 1 16 0 ?_
      refine te ?_
      obtain rfl := si H
      have H := Ho4
      dsimp only at H
      exact fJ [(false,[cI (-1)])] H
     refine tA h5 ?_
     refine gA 1 16 0 ?_
     refine te ?_
     obtain rfl := si H
     have H := Ho4
     dsimp only at H
     exact fJ [(false,[cI (-1)])] H
    have H := zH h4 H
    refine tB_ ?_
    refine gA 1 16 0 ?_
    refine te ?_
    obtain rfl := si H
    have H := Ho4
    dsimp only at H
    exact fJ [(false,[cI (-1)])] H
   refine tA h3 ?_
   refine gA 1 16 0 ?_
   refine te ?_
   obtain rfl := si H
   have H := Ho4
   dsimp only at H
   exact fJ [(false,[cI (-1)])] H
  refine tA h2 ?_
  refine gA 1 16 0 ?_
  refine te ?_
  obtain rfl := si H
  have H := Ho4
  dsimp only at H
  exact fJ [(false,[cI (-1)])] H
 rintro y3 H
 have H : (zAY n y3) = some r := H
 unfold zAY at H
 refine gA 2 16 0 ?_
 exact te (fJ [(false,[cI y3])] H)
def JD (n : Nat) (y3 : Int) : Option (Int) :=
  (some y3)
def qt (n : Nat) : Nat → (List zB) → Int → Int → Option ((Int) ⊕ (Int))
  | 0,_,_,_ => none
  | mo4 + 1,x0,y1,y2 => (bif (decide (y1 < (x0.length : Int))) then ((idx x0 y1).bind fun v5 => (bif (v5.Tag != y2) then (some (Sum.inr (-1))) else ((idx x0 y1).bind fun v6 => (bif (v6.Mac != (IntKind.wrap .i64 (y2 + 1))) then (some (Sum.inr (-1))) else ((idx x0 y1).bind fun v7 => (bif (v7.Port != (IntKind.wrap .i64 ((IntKind.wrap .i64 (y2 + 1)) + 1))) then (some (Sum.inr (-1))) else ((idx x0 y1).bind fun v8 => (bif (v8.Age != (IntKind.wrap .i64 ((IntKind.wrap .i64 ((IntKind.wrap .i64 (y2 + 1)) + 1)) + 1))) then (some (Sum.inr (-1))) else ((idx x0 y1).bind fun v9 => (bif (decide ((3 : Int) ≠ 0)) then (bif (!(v9.Sc == ((Int.tmod (IntKind.wrap .i64 ((IntKind.wrap .i64 ((IntKind.wrap .i64 ((IntKind.wrap .i64 (y2 + 1)) + 1)) + 1)) + 1)) 3) == 0))) then (some (Sum.inr (-1))) else (qt n mo4 x0 (IntKind.wrap .i64 (y1 + 1)) (IntKind.wrap .i64 ((IntKind.wrap .i64 ((IntKind.wrap .i64 ((IntKind.wrap .i64 ((IntKind.wrap .i64 (y2 + 1)) + 1)) + 1)) + 1)) + 1)))) else none)))))))))) else (some (Sum.inl y2)))
def Yu (n : Nat) (x0 : (List zB)) (x1 : Int) : Option (Int) :=
  ((qt n n x0 0 x1).bind fun o => match o with | .inl y3 => (JD n y3) | .inr r => some r)
theorem zIz (n : Nat) (x0 : (List zB)) (x1 : Int) (r : Int) (H : Yu n x0 x1 = some r) : zD Tryz.prog 100 [.val false [.sl false 5 (CV.frzEs (x0.map zB.row))],.val false [.lit (.int .i64 x1)]] [.val false [.lit (.int .i64 r)]] [] := by
 refine cW Tryz.func100 (fun g d => sl [g 0,sl [g 1] (.block 0 (.loop (sl [sl [g 2] (cn 9 .skip (.exit 0)),.block 1 (sl [sl [g 4] (cn 18 (sl [g 5] .ret) .skip),g 6,sl [g 7] (cn 27 (sl [g 8] .ret) .skip),g 9,sl [g 10] (cn 36 (sl [g 11] .ret) .skip),g 12,sl [g 13] (cn 45 (sl [g 14] .ret) .skip),g 15,sl [g 16] (cn 56 (sl [g 17] .ret) .skip)] (g 18))] (g 3)))),g 19] .ret) [.tmp 4] fun cx => ?_
 unfold Yu at H
 refine gA 1 3 0 ?_
 refine tS ?_
 refine gA 1 35 0 ?_
 obtain ⟨o4,eo4,Ho4⟩ := bs H
 clear H
 refine Tr.mid (ι := Int) (fun v => ⟨60,0,[sI 1 v],[]⟩) (fun v => JD n v = some r) ?_ ?_
 ·refine tB ?_
  refine Tr.loop (ι := Nat × (Int × Int)) (fun v => ⟨60,0,[sI 5 v.2.1,sC 0 (cF 5 x0 zB.row),sI 1 v.2.2],[]⟩) (fun v => qt n v.1 x0 v.2.1 v.2.2 = some o4) (fun v => v.1) (n,(0,x1)) eo4 (St.sub_of [5,0,1] [] kr) ?_
  rintro ⟨mo4,y1,y2⟩ H
  have H : qt n mo4 x0 y1 y2 = some o4 := H
  obtain _ | mo4 := mo4
  ·exact nN H
  rw [qt] at H
  refine tS ?_
  refine rA 2 ?_
  refine kF x0 zB.row ?_
  refine uA 1 547 0 ?_
  obtain ⟨h1,H⟩ | ⟨h1,H⟩ := bC H
  ·refine nA h1 ?_
   refine Tr.exit ?_
   refine aJ ?_
   obtain rfl := si H
   have H := Ho4
   dsimp only at H
   exact jA y2 H [1] []
  refine tA h1 ?_
  refine tK ?_
  refine tS ?_
  refine tB ?_
  refine tS ?_
  refine rA 2 ?_
  obtain ⟨v5,ev5,H⟩ := bs H
  refine iA zB.row ev5 ?_
  refine uA 4 262179 0 ?_
  obtain ⟨h2,H⟩ | ⟨h2,H⟩ := bC H
  ·refine nA h2 ?_
   refine tK ?_
   refine gA 3 35 0 ?_
   refine tS ?_
   refine rA 2 ?_
   obtain ⟨v6,ev6,H⟩ := bs H
   refine iA zB.row ev6 ?_
   refine uA 4 134217763 0 ?_
   obtain ⟨h3,H⟩ | ⟨h3,H⟩ := bC H
   ·refine nA h3 ?_
    refine tK ?_
    refine gA 3 35 0 ?_
    refine tS ?_
    refine rA 2 ?_
    obtain ⟨v7,ev7,H⟩ := bs H
    refine iA zB.row ev7 ?_
    refine uA 4 68719476771 0 ?_
    obtain ⟨h4,H⟩ | ⟨h4,H⟩ := bC H
    ·refine nA h4 ?_
     refine tK ?_
     refine gA 3 35 0 ?_
     refine tS ?_
     refine rA 2 ?_
     obtain ⟨v8,ev8,H⟩ := bs H
     refine iA zB.row ev8 ?_
     refine uA 4 35184372088867 0 ?_
     refine sT ⟨60,0,[sB 45 (v8.Age != (IntKind.wrap .i64 ((IntKind.wrap .i64 ((IntKind.wrap .i64 (y2 + 1)) + 1)) + 1))),sI 1 (IntKind.wrap .i64 ((IntKind.wrap .i64 ((IntKind.wrap .i64 (y2 + 1)) + 1)) + 1)),sI 5 y1,sC 0 (cF 5 x0 zB.row)],[]⟩ ?_
     cases h5 : (v8.Age != (IntKind.wrap .i64 ((IntKind.wrap .i64 ((IntKind.wrap .i64 (y2 + 1)) + 1)) + 1)))
     ·have H := zG h5 H
      refine nB_ ?_
      refine tK ?_
      refine gA 3 35 0 ?_
      refine tS ?_
      refine rA 2 ?_
      obtain ⟨v9,ev9,H⟩ := bs H
      refine iA zB.row ev9 ?_
      refine lA 3 ?_
      obtain ⟨hg10,H⟩ := gs H
      refine LAt.binC tOk (op := .rem) (t := 3) (ty := 3) (ty' := 3) (x := (.tmp 53)) (y := (.const (.int .i64 3))) (d := 54) (g := none) (.int .i64 (IntKind.wrap .i64 ((IntKind.wrap .i64 ((IntKind.wrap .i64 ((IntKind.wrap .i64 (y2 + 1)) + 1)) + 1)) + 1))) (.int .i64 3) (.int .i64 (Int.tmod (IntKind.wrap .i64 ((IntKind.wrap .i64 ((IntKind.wrap .i64 ((IntKind.wrap .i64 (y2 + 1)) + 1)) + 1)) + 1)) 3)) _ kr kr kr kr kr (φ := (IntKind.i64 = IntKind.i64 ∧ (3 : Int) ≠ 0)) kr (⟨rfl,of_decide_eq_true hg10⟩) rfl ?_
      refine uA 2 72057594037927971 0 ?_
      obtain ⟨h6,H⟩ | ⟨h6,H⟩ := bC H
      ·refine nA h6 ?_
       refine tK ?_
       refine eA 3 35 0 ?_
       refine eA 3 35 0 ?_
       exact jB mo4 ((IntKind.wrap .i64 (y1 + 1)),(IntKind.wrap .i64 ((IntKind.wrap .i64 ((IntKind.wrap .i64 ((IntKind.wrap .i64 ((IntKind.wrap .i64 (y2 + 1)) + 1)) + 1)) + 1)) + 1))) H [5,0,1] []
      refine tA h6 ?_
      refine gA 1 16 0 ?_
      refine te ?_
      obtain rfl := si H
      have H := Ho4
      dsimp only at H
      exact fJ [(false,[cI (-1)])] H
     have H := zH h5 H
     refine tB_ ?_
     refine gA 1 16 0 ?_
     refine te ?_
     obtain rfl := si H
     have H := Ho4
     dsimp only at H
     exact fJ [(false,[cI (-1)])] H
    refine tA h4 ?_
    refine gA 1 16 0 ?_
    refine te ?_
    obtain rfl := si H
    have H := Ho4
    dsimp only at H
    exact fJ [(false,[cI (-1)])] H
   refine tA h3 ?_
   refine gA 1 16 0 ?_
   refine te ?_
   obtain rfl := si H
   have H := Ho4
   dsimp only at H
   exact fJ [(false,[cI (-1)])] H
  refine tA h2 ?_
  refine gA 1 16 0 ?_
  refine te ?_
  obtain rfl := si H
  have H := Ho4
  dsimp only at H
  exact fJ [(false,[cI (-1)])] H
 rintro y3 H
 have H : (JD n y3) = some r := H
 unfold JD at H
 refine gA 2 16 0 ?_
 exact te (fJ [(false,[cI y3])] H)
def JF (n : Nat) (y3 : Int) : Option (Int) :=
  (some y3)
def qv (n : Nat) : Nat → (List zC) → Int → Int → Option ((Int) ⊕ (Int))
  | 0,_,_,_ => none
  | mo4 + 1,x0,y1,y2 => (bif (decide (y1 < (x0.length : Int))) then ((idx x0 y1).bind fun v5 => (bif (v5.Id != y2) then (some (Sum.inr (-1))) else ((idx x0 y1).bind fun v6 => (bif (v6.Members != (IntKind.wrap .i64 (y2 + 1))) then (some (Sum.inr (-1))) else ((idx x0 y1).bind fun v7 => (bif (v7.Bare != (IntKind.wrap .i64 ((IntKind.wrap .i64 (y2 + 1)) + 1))) then (some (Sum.inr (-1))) else (qv n mo4 x0 (IntKind.wrap .i64 (y1 + 1)) (IntKind.wrap .i64 ((IntKind.wrap .i64 ((IntKind.wrap .i64 (y2 + 1)) + 1)) + 1))))))))) else (some (Sum.inl y2)))
def Yw (n : Nat) (x0 : (List zC)) (x1 : Int) : Option (Int) :=
  ((qv n n x0 0 x1).bind fun o => match o with | .inl y3 => (JF n y3) | .inr r => some r)
theorem zI1 (n : Nat) (x0 : (List zC)) (x1 : Int) (r : Int) (H : Yw n x0 x1 = some r) : zD Tryz.prog 192 [.val false [.sl false 3 (CV.frzEs (x0.map zC.row))],.val false [.lit (.int .i64 x1)]] [.val false [.lit (.int .i64 r)]] [] := by
 refine cW Tryz.func192 (fun g d => sl [g 0,sl [g 1] (.block 0 (.loop (sl [sl [g 2] (cn 9 .skip (.exit 0)),.block 1 (sl [sl [g 4] (cn 18 (sl [g 5] .ret) .skip),g 6,sl [g 7] (cn 27 (sl [g 8] .ret) .skip),g 9,sl [g 10] (cn 36 (sl [g 11] .ret) .skip)] (g 12))] (g 3)))),g 13] .ret) [.tmp 4] fun cx => ?_
 unfold Yw at H
 refine gA 1 3 0 ?_
 refine tS ?_
 refine gA 1 35 0 ?_
 obtain ⟨o4,eo4,Ho4⟩ := bs H
 clear H
 refine Tr.mid (ι := Int) (fun v => ⟨40,0,[sI 1 v],[]⟩) (fun v => JF n v = some r) ?_ ?_
 ·refine tB ?_
  refine Tr.loop (ι := Nat × (Int × Int)) (fun v => ⟨40,0,[sI 5 v.2.1,sC 0 (cF 3 x0 zC.row),sI 1 v.2.2],[]⟩) (fun v => qv n v.1 x0 v.2.1 v.2.2 = some o4) (fun v => v.1) (n,(0,x1)) eo4 (St.sub_of [5,0,1] [] kr) ?_
  rintro ⟨mo4,y1,y2⟩ H
  have H : qv n mo4 x0 y1 y2 = some o4 := H
  obtain _ | mo4 := mo4
  ·exact nN H
  rw [qv] at H
  refine tS ?_
  refine rA 2 ?_
  refine kF x0 zC.row ?_
  refine uA 1 547 0 ?_
  obtain ⟨h1,H⟩ | ⟨h1,H⟩ := bC H
  ·refine nA h1 ?_
   refine Tr.exit ?_
   refine aJ ?_
   obtain rfl := si H
   have H := Ho4
   dsimp only at H
   exact jA y2 H [1] []
  refine tA h1 ?_
  refine tK ?_
  refine tS ?_
  refine tB ?_
  refine tS ?_
  refine rA 2 ?_
  obtain ⟨v5,ev5,H⟩ := bs H
  refine iA zC.row ev5 ?_
  refine uA 4 262179 0 ?_
  obtain ⟨h2,H⟩ | ⟨h2,H⟩ := bC H
  ·refine nA h2 ?_
   refine tK ?_
   refine gA 3 35 0 ?_
   refine tS ?_
   refine rA 2 ?_
   obtain ⟨v6,ev6,H⟩ := bs H
   refine iA zC.row ev6 ?_
   refine uA 4 134217763 0 ?_
   obtain ⟨h3,H⟩ | ⟨h3,H⟩ := bC H
   ·refine nA h3 ?_
    refine tK ?_
    refine gA 3 35 0 ?_
    refine tS ?_
    refine rA 2 ?_
    obtain ⟨v7,ev7,H⟩ := bs H
    refine iA zC.row ev7 ?_
    refine uA 4 68719476771 0 ?_
    obtain ⟨h4,H⟩ | ⟨h4,H⟩ := bC H
    ·refine nA h4 ?_
     refine tK ?_
     refine eA 3 35 0 ?_
     refine eA 3 35 0 ?_
     exact jB mo4 ((IntKind.wrap .i64 (y1 + 1)),(IntKind.wrap .i64 ((IntKind.wrap .i64 ((IntKind.wrap .i64 (y2 + 1)) + 1)) + 1))) H [5,0,1] []
    refine tA h4 ?_
    refine gA 1 16 0 ?_
    refine te ?_
    obtain rfl := si H
    have H := Ho4
    dsimp only at H
    exact fJ [(false,[cI (-1)])] H
   refine tA h3 ?_
   refine gA 1 16 0 ?_
   refine te ?_
   obtain rfl := si H
   have H := Ho4
   dsimp only at H
   exact fJ [(false,[cI (-1)])] H
  refine tA h2 ?_
  refine gA 1 16 0 ?_
  refine te ?_
  obtain rfl := si H
  have H := Ho4
  dsimp only at H
  exact fJ [(false,[cI (-1)])] H
 rintro y3 H
 have H : (JF n y3) = some r := H
 unfold JF at H
 refine gA 2 16 0 ?_
 exact te (fJ [(false,[cI y3])] H)
def Ju (n : Nat) (y3 : Int) : Option (Int) :=
  (some y3)
def q8 (n : Nat) : Nat → (List Int) → Int → Int → Option ((Int) ⊕ (Int))
  | 0,_,_,_ => none
  | mo4 + 1,x0,y1,y2 => (bif (decide (y1 < (x0.length : Int))) then ((idx x0 y1).bind fun v5 => (bif (v5 != y2) then (some (Sum.inr (-1))) else (q8 n mo4 x0 (IntKind.wrap .i64 (y1 + 1)) (IntKind.wrap .i64 (y2 + 1))))) else (some (Sum.inl y2)))
def JZ (n : Nat) (x0 : (List Int)) (x1 : Int) : Option (Int) :=
  ((q8 n n x0 0 x1).bind fun o => match o with | .inl y3 => (Ju n y3) | .inr r => some r)
theorem zJz (n : Nat) (x0 : (List Int)) (x1 : Int) (r : Int) (H : JZ n x0 x1 = some r) : zD Tryz.prog 193 [.val false [.sl false 1 (CV.frzEs (x0.map intRow))],.val false [.lit (.int .i64 x1)]] [.val false [.lit (.int .i64 r)]] [] := by
 refine cW Tryz.func193 (fun g d => sl [g 0,sl [g 1] (.block 0 (.loop (sl [sl [g 2] (cn 9 .skip (.exit 0)),.block 1 (sl [sl [g 4] (cn 17 (sl [g 5] .ret) .skip)] (g 6))] (g 3)))),g 7] .ret) [.tmp 4] fun cx => ?_
 unfold JZ at H
 refine gA 1 3 0 ?_
 refine tS ?_
 refine gA 1 35 0 ?_
 obtain ⟨o4,eo4,Ho4⟩ := bs H
 clear H
 refine Tr.mid (ι := Int) (fun v => ⟨21,0,[sI 1 v],[]⟩) (fun v => Ju n v = some r) ?_ ?_
 ·refine tB ?_
  refine Tr.loop (ι := Nat × (Int × Int)) (fun v => ⟨21,0,[sI 5 v.2.1,sC 0 (cF 1 x0 intRow),sI 1 v.2.2],[]⟩) (fun v => q8 n v.1 x0 v.2.1 v.2.2 = some o4) (fun v => v.1) (n,(0,x1)) eo4 (St.sub_of [5,0,1] [] kr) ?_
  rintro ⟨mo4,y1,y2⟩ H
  have H : q8 n mo4 x0 y1 y2 = some o4 := H
  obtain _ | mo4 := mo4
  ·exact nN H
  rw [q8] at H
  refine tS ?_
  refine rA 2 ?_
  refine kF x0 intRow ?_
  refine uA 1 547 0 ?_
  obtain ⟨h1,H⟩ | ⟨h1,H⟩ := bC H
  ·refine nA h1 ?_
   refine Tr.exit ?_
   refine aJ ?_
   obtain rfl := si H
   have H := Ho4
   dsimp only at H
   exact jA y2 H [1] []
  refine tA h1 ?_
  refine tK ?_
  refine tS ?_
  refine tB ?_
  refine tS ?_
  refine rA 2 ?_
  obtain ⟨v5,ev5,H⟩ := bs H
  refine iA intRow ev5 ?_
  refine uA 3 131107 0 ?_
  obtain ⟨h2,H⟩ | ⟨h2,H⟩ := bC H
  ·refine nA h2 ?_
   refine tK ?_
   refine eA 3 35 0 ?_
   refine eA 3 35 0 ?_
   exact jB mo4 ((IntKind.wrap .i64 (y1 + 1)),(IntKind.wrap .i64 (y2 + 1))) H [5,0,1] []
  refine tA h2 ?_
  refine gA 1 16 0 ?_
  refine te ?_
  obtain rfl := si H
  have H := Ho4
  dsimp only at H
  exact fJ [(false,[cI (-1)])] H
 rintro y3 H
 have H : (Ju n y3) = some r := H
 unfold Ju at H
 refine gA 2 16 0 ?_
 exact te (fJ [(false,[cI y3])] H)
def YX (n : Nat) (y3 : Int) : Option (Int) :=
  (some y3)
def qb (n : Nat) : Nat → (List zA) → Int → Int → Option ((Int) ⊕ (Int))
  | 0,_,_,_ => none
  | mo4 + 1,x0,y1,y2 => (bif (decide (y1 < (x0.length : Int))) then ((idx x0 y1).bind fun v5 => (bif (v5.Id != y2) then (some (Sum.inr (-1))) else ((idx x0 y1).bind fun v6 => ((YC n (IntKind.wrap .i64 (y2 + 1))).bind fun r7 => (bif (!(v6.Name.toList == r7.toList)) then (some (Sum.inr (-1))) else ((idx x0 y1).bind fun v8 => ((zAC n v8.Ps (IntKind.wrap .i64 ((IntKind.wrap .i64 (y2 + 1)) + 1))).bind fun r9 => (bif (decide (r9 < 0)) then (some (Sum.inr (-1))) else ((idx x0 y1).bind fun v10 => ((Yu n v10.F r9).bind fun r11 => (bif (decide (r11 < 0)) then (some (Sum.inr (-1))) else ((idx x0 y1).bind fun v12 => ((Yw n v12.V.Rows r11).bind fun r13 => (bif (decide (r13 < 0)) then (some (Sum.inr (-1))) else ((idx x0 y1).bind fun v14 => ((JZ n v14.V.Pv r13).bind fun r15 => (bif (decide (r15 < 0)) then (some (Sum.inr (-1))) else ((idx x0 y1).bind fun v16 => (bif (v16.Tk != r15) then (some (Sum.inr (-1))) else ((idx x0 y1).bind fun v17 => (bif (v17.Pa != (IntKind.wrap .i64 (r15 + 1))) then (some (Sum.inr (-1))) else ((idx x0 y1).bind fun v18 => (bif (v18.Wo != (IntKind.wrap .i64 ((IntKind.wrap .i64 (r15 + 1)) + 1))) then (some (Sum.inr (-1))) else ((idx x0 y1).bind fun v19 => (bif (v19.Dr != (IntKind.wrap .i64 ((IntKind.wrap .i64 ((IntKind.wrap .i64 (r15 + 1)) + 1)) + 1))) then (some (Sum.inr (-1))) else ((idx x0 y1).bind fun v20 => (bif (v20.Ve != (IntKind.wrap .i64 ((IntKind.wrap .i64 ((IntKind.wrap .i64 ((IntKind.wrap .i64 (r15 + 1)) + 1)) + 1)) + 1))) then (some (Sum.inr (-1))) else (qb n mo4 x0 (IntKind.wrap .i64 (y1 + 1)) (IntKind.wrap .i64 ((IntKind.wrap .i64 ((IntKind.wrap .i64 ((IntKind.wrap .i64 ((IntKind.wrap .i64 (r15 + 1)) + 1)) + 1)) + 1)) + 1)))))))))))))))))))))))))))))) else (some (Sum.inl y2)))
def Qy (n : Nat) (x0 : (List zA)) (x1 : Int) : Option (Int) :=
  ((qb n n x0 0 x1).bind fun o => match o with | .inl y3 => (YX n y3) | .inr r => some r)
theorem zHT (n : Nat) (x0 : (List zA)) (x1 : Int) (r : Int) (H : Qy n x0 x1 = some r) : zD Tryz.prog 127 [.val false [.sl false 11 (CV.frzEs (x0.map zA.row))],.val false [.lit (.int .i64 x1)]] [.val false [.lit (.int .i64 r)]] [] := by
 refine cW Tryz.func127 (fun g d => sl [g 0,sl [g 1] (.block 0 (.loop (sl [sl [g 2] (cn 9 .skip (.exit 0)),.block 1 (sl [sl [g 4] (cn 18 (sl [g 5] .ret) .skip),g 6,sl [d 7] (cn 28 (sl [g 8] .ret) .skip),g 9,g 10,sl [g 11] (cn 39 (sl [g 12] .ret) .skip),g 13,sl [g 14] (cn 48 (sl [g 15] .ret) .skip),g 16,sl [g 17] (cn 58 (sl [g 18] .ret) .skip),g 19,sl [g 20] (cn 68 (sl [g 21] .ret) .skip),sl [g 22] (cn 75 (sl [g 23] .ret) .skip),g 24,sl [g 25] (cn 84 (sl [g 26] .ret) .skip),g 27,sl [g 28] (cn 93 (sl [g 29] .ret) .skip),g 30,sl [g 31] (cn 102 (sl [g 32] .ret) .skip),g 33,sl [g 34] (cn 111 (sl [g 35] .ret) .skip)] (g 36))] (g 3)))),g 37] .ret) [.tmp 4] fun cx => ?_
 unfold Qy at H
 refine gA 1 3 0 ?_
 refine tS ?_
 refine gA 1 35 0 ?_
 obtain ⟨o4,eo4,Ho4⟩ := bs H
 clear H
 refine Tr.mid (ι := Int) (fun v => ⟨115,0,[sI 1 v],[]⟩) (fun v => YX n v = some r) ?_ ?_
 ·refine tB ?_
  refine Tr.loop (ι := Nat × (Int × Int)) (fun v => ⟨115,0,[sI 5 v.2.1,sC 0 (cF 11 x0 zA.row),sI 1 v.2.2],[]⟩) (fun v => qb n v.1 x0 v.2.1 v.2.2 = some o4) (fun v => v.1) (n,(0,x1)) eo4 (St.sub_of [5,0,1] [] kr) ?_
  rintro ⟨mo4,y1,y2⟩ H
  have H : qb n mo4 x0 y1 y2 = some o4 := H
  obtain _ | mo4 := mo4
  ·exact nN H
  rw [qb] at H
  refine tS ?_
  refine rA 2 ?_
  refine kF x0 zA.row ?_
  refine uA 1 547 0 ?_
  obtain ⟨h1,H⟩ | ⟨h1,H⟩ := bC H
  ·refine nA h1 ?_
   refine Tr.exit ?_
   refine aJ ?_
   obtain rfl := si H
   have H := Ho4
   dsimp only at H
   exact jA y2 H [1] []
  refine tA h1 ?_
  refine tK ?_
  refine tS ?_
  refine tB ?_
  refine tS ?_
  refine rA 2 ?_
  obtain ⟨v5,ev5,H⟩ := bs H
  refine iA zA.row ev5 ?_
  refine uA 4 262179 0 ?_
  obtain ⟨h2,H⟩ | ⟨h2,H⟩ := bC H
  ·refine nA h2 ?_
   refine tK ?_
   refine gA 3 35 0 ?_
   refine tS ?_
   obtain ⟨v6,ev6,H⟩ := bs H
   obtain ⟨r7,er7,H⟩ := bs H
   refine Tr.draws mixed 8 kr ⟨115,0,[sB 28 (!(v6.Name.toList == r7.toList)),sI 1 (IntKind.wrap .i64 (y2 + 1)),sI 5 y1,sC 0 (cF 11 x0 zA.row)],[]⟩ (fun cx => ?_) ?_
   ·refine aA [(0,[]),(1,[])] 6 [] fun cx => ?_
    refine aI tOk 2 63 0 21 22 23 none ⟨(.slot 21),[],0,false,11,(CV.frzEs (x0.map zA.row))⟩ y1 (CV.frzRow (zA.row v6)) _ kr kr kr kr kr kr rfl (ZI ev6) rfl (fun cx => ?_)
    refine aA [(3,[]),(4,[]),(5,[])] 2 [] fun cx => ?_
    refine bA 6 ?_
    refine vA [.rd] (zFW n (IntKind.wrap .i64 (y2 + 1)) r7 er7) ?_
    refine fA ?_
    refine aA [(7,[])] 0 [] fun cx => ?_
    exact eE [28,1,5,0] []
   refine sT ⟨115,0,[sB 28 (!(v6.Name.toList == r7.toList)),sI 1 (IntKind.wrap .i64 (y2 + 1)),sI 5 y1,sC 0 (cF 11 x0 zA.row)],[]⟩ ?_
   cases h3 : (!(v6.Name.toList == r7.toList))
   ·have H := zG h3 H
    refine nB_ ?_
    refine tK ?_
    refine gA 3 35 0 ?_
    refine rA 2 ?_
    obtain ⟨v8,ev8,H⟩ := bs H
    refine iA zA.row ev8 ?_
    refine lA 3 ?_
    obtain ⟨r9,er9,H⟩ := bs H
    refine vA [.rd,.rd] (zKg n v8.Ps (IntKind.wrap .i64 ((IntKind.wrap .i64 (y2 + 1)) + 1)) r9 er9) ?_
    refine uA 1 35 0 ?_
    refine tS ?_
    refine gA 2 549755813923 0 ?_
    obtain ⟨h4,H⟩ | ⟨h4,H⟩ := bC H
    ·refine nA h4 ?_
     refine tK ?_
     refine rA 2 ?_
     obtain ⟨v10,ev10,H⟩ := bs H
     refine iA zA.row ev10 ?_
     refine lA 3 ?_
     obtain ⟨r11,er11,H⟩ := bs H
     refine vA [.rd,.rd] (zIz n v10.F r9 r11 er11) ?_
     refine uA 1 35 0 ?_
     refine tS ?_
     refine gA 2 281474976710691 0 ?_
     obtain ⟨h5,H⟩ | ⟨h5,H⟩ := bC H
     ·refine nA h5 ?_
      refine tK ?_
      refine rA 2 ?_
      obtain ⟨v12,ev12,H⟩ := bs H
      refine iA zA.row ev12 ?_
      refine lA 4 ?_
      obtain ⟨r13,er13,H⟩ := bs H
      refine vA [.rd,.rd] (zI1 n v12.V.Rows r11 r13 er13) ?_
      refine uA 1 35 0 ?_
      refine tS ?_
      refine gA 2 0x400000000000023 0 ?_
      refine sT ⟨115,0,[sB 58 (decide (r13 < 0)),sI 1 r13,sI 5 y1,sC 0 (cF 11 x0 zA.row)],[]⟩ ?_
      cases h6 : (decide (r13 < 0))
      ·have H := zG h6 H
       refine nB_ ?_
       refine tK ?_
       refine rA 2 ?_
       obtain ⟨v14,ev14,H⟩ := bs H
       refine iA zA.row ev14 ?_
       refine lA 4 ?_
       obtain ⟨r15,er15,H⟩ := bs H
       refine vA [.rd,.rd] (zJz n v14.V.Pv r13 r15 er15) ?_
       refine uA 1 35 0 ?_
       refine tS ?_
       refine gA 2 0x100000000000000023 0 ?_
       obtain ⟨h7,H⟩ | ⟨h7,H⟩ := bC H
       ·refine nA h7 ?_
        refine tK ?_
        refine tS ?_
        refine rA 2 ?_
        obtain ⟨v16,ev16,H⟩ := bs H
        refine iA zA.row ev16 ?_
        refine uA 4 0x8000000000000000023 0 ?_
        obtain ⟨h8,H⟩ | ⟨h8,H⟩ := bC H
        ·refine nA h8 ?_
         refine tK ?_
         refine gA 3 35 0 ?_
         refine tS ?_
         refine rA 2 ?_
         obtain ⟨v17,ev17,H⟩ := bs H
         refine iA zA.row ev17 ?_
         refine uA 4 0x1000000000000000000023 0 ?_
         obtain ⟨h9,H⟩ | ⟨h9,H⟩ := bC H
         ·refine nA h9 ?_
          refine tK ?_
          refine gA 3 35 0 ?_
          refine tS ?_
          refine rA 2 ?_
          obtain ⟨v18,ev18,H⟩ := bs H
          refine iA zA.row ev18 ?_
          refine uA 4 0x200000000000000000000023 0 ?_
          refine sT ⟨115,0,[sB 93 (v18.Wo != (IntKind.wrap .i64 ((IntKind.wrap .i64 (r15 + 1)) + 1))),sI 1 (IntKind.wrap .i64 ((IntKind.wrap .i64 (r15 + 1)) + 1)),sI 5 y1,sC 0 (cF 11 x0 zA.row)],[]⟩ ?_
          cases h10 : (v18.Wo != (IntKind.wrap .i64 ((IntKind.wrap .i64 (r15 + 1)) + 1)))
          ·have H := zG h10 H
           refine nB_ ?_
           refine tK ?_
           refine gA 3 35 0 ?_
           refine tS ?_
           refine rA 2 ?_
           obtain ⟨v19,ev19,H⟩ := bs H
           refine iA zA.row ev19 ?_
           refine uA 4 0x40000000000000000000000023 0 ?_
           obtain ⟨h11,H⟩ | ⟨h11,H⟩ := bC H
           ·refine nA h11 ?_
            refine tK ?_
            refine gA 3 35 0 ?_
            refine tS ?_
            refine rA 2 ?_
            obtain ⟨v20,ev20,H⟩ := bs H
            refine iA zA.row ev20 ?_
            refine uA 4 0x8000000000000000000000000023 0 ?_
            obtain ⟨h12,H⟩ | ⟨h12,H⟩ := bC H
            ·refine nA h12 ?_
             refine tK ?_
             refine eA 3 35 0 ?_
             refine eA 3 35 0 ?_
             exact jB mo4 ((IntKind.wrap .i64 (y1 + 1)),(IntKind.wrap .i64 ((IntKind.wrap .i64 ((IntKind.wrap .i64 ((IntKind.wrap .i64 ((IntKind.wrap .i64 (r15 + 1)) + 1)) + 1)) + 1)) + 1))) H [5,0,1] []
            refine tA h12 ?_
            refine gA 1 16 0 ?_
            refine te ?_
            obtain rfl := si H
            have H := Ho4
            dsimp only at H
            exact fJ [(false,[cI (-1)])] H
           refine tA h11 ?_
           refine gA 1 16 0 ?_
           refine te ?_
           obtain rfl := si H
           have H := Ho4
           dsimp only at H
           exact fJ [(false,[cI (-1)])] H
          have H := zH h10 H
          refine tB_ ?_
          refine gA 1 16 0 ?_
          refine te ?_
          obtain rfl := si H
          have H := Ho4
          dsimp only at H
          exact fJ [(false,[cI (-1)])] H
         refine tA h9 ?_
         refine gA 1 16 0 ?_
         refine te ?_
         obtain rfl := si H
         have H := Ho4
         dsimp only at H
         exact fJ [(false,[cI (-1)])] H
        refine tA h8 ?_
        refine gA 1 16 0 ?_
        refine te ?_
        obtain rfl := si H
        have H := Ho4
        dsimp only at H
        exact fJ [(false,[cI (-1)])] H
       refine tA h7 ?_
       refine gA 1 16 0 ?_
       refine te ?_
       obtain rfl := si H
       have H := Ho4
       dsimp only at H
       exact fJ [(false,[cI (-1)])] H
      have H := zH h6 H
      refine tB_ ?_
      refine gA 1 16 0 ?_
      refine te ?_
      obtain rfl := si H
      have H := Ho4
      dsimp only at H
      exact fJ [(false,[cI (-1)])] H
     refine tA h5 ?_
     refine gA 1 16 0 ?_
     refine te ?_
     obtain rfl := si H
     have H := Ho4
     dsimp only at H
     exact fJ [(false,[cI (-1)])] H
    refine tA h4 ?_
    refine gA 1 16 0 ?_
    refine te ?_
    obtain rfl := si H
    have H := Ho4
    dsimp only at H
    exact fJ [(false,[cI (-1)])] H
   have H := zH h3 H
   refine tB_ ?_
   refine gA 1 16 0 ?_
   refine te ?_
   obtain rfl := si H
   have H := Ho4
   dsimp only at H
   exact fJ [(false,[cI (-1)])] H
  refine tA h2 ?_
  refine gA 1 16 0 ?_
  refine te ?_
  obtain rfl := si H
  have H := Ho4
  dsimp only at H
  exact fJ [(false,[cI (-1)])] H
 rintro y3 H
 have H : (YX n y3) = some r := H
 unfold YX at H
 refine gA 2 16 0 ?_
 exact te (fJ [(false,[cI y3])] H)
def JE (n : Nat) (y3 : Int) : Option (Int) :=
  (some y3)
def qu (n : Nat) : Nat → (List Link) → Int → Int → Option ((Int) ⊕ (Int))
  | 0,_,_,_ => none
  | mo4 + 1,x0,y1,y2 => (bif (decide (y1 < (x0.length : Int))) then ((idx x0 y1).bind fun v5 => (bif (v5.A != y2) then (some (Sum.inr (-1))) else ((idx x0 y1).bind fun v6 => (bif (v6.P != (IntKind.wrap .i64 (y2 + 1))) then (some (Sum.inr (-1))) else ((idx x0 y1).bind fun v7 => (bif (v7.B != (IntKind.wrap .i64 ((IntKind.wrap .i64 (y2 + 1)) + 1))) then (some (Sum.inr (-1))) else ((idx x0 y1).bind fun v8 => (bif (v8.Q != (IntKind.wrap .i64 ((IntKind.wrap .i64 ((IntKind.wrap .i64 (y2 + 1)) + 1)) + 1))) then (some (Sum.inr (-1))) else (qu n mo4 x0 (IntKind.wrap .i64 (y1 + 1)) (IntKind.wrap .i64 ((IntKind.wrap .i64 ((IntKind.wrap .i64 ((IntKind.wrap .i64 (y2 + 1)) + 1)) + 1)) + 1))))))))))) else (some (Sum.inl y2)))
def Yv (n : Nat) (x0 : (List Link)) (x1 : Int) : Option (Int) :=
  ((qu n n x0 0 x1).bind fun o => match o with | .inl y3 => (JE n y3) | .inr r => some r)
theorem zI0 (n : Nat) (x0 : (List Link)) (x1 : Int) (r : Int) (H : Yv n x0 x1 = some r) : zD Tryz.prog 128 [.val false [.sl false 4 (CV.frzEs (x0.map Link.row))],.val false [.lit (.int .i64 x1)]] [.val false [.lit (.int .i64 r)]] [] := by
 refine cW Tryz.func128 (fun g d => sl [g 0,sl [g 1] (.block 0 (.loop (sl [sl [g 2] (cn 9 .skip (.exit 0)),.block 1 (sl [sl [g 4] (cn 18 (sl [g 5] .ret) .skip),g 6,sl [g 7] (cn 27 (sl [g 8] .ret) .skip),g 9,sl [g 10] (cn 36 (sl [g 11] .ret) .skip),g 12,sl [g 13] (cn 45 (sl [g 14] .ret) .skip)] (g 15))] (g 3)))),g 16] .ret) [.tmp 4] fun cx => ?_
 unfold Yv at H
 refine gA 1 3 0 ?_
 refine tS ?_
 refine gA 1 35 0 ?_
 obtain ⟨o4,eo4,Ho4⟩ := bs H
 clear H
 refine Tr.mid (ι := Int) (fun v => ⟨49,0,[sI 1 v],[]⟩) (fun v => JE n v = some r) ?_ ?_
 ·refine tB ?_
  refine Tr.loop (ι := Nat × (Int × Int)) (fun v => ⟨49,0,[sI 5 v.2.1,sC 0 (cF 4 x0 Link.row),sI 1 v.2.2],[]⟩) (fun v => qu n v.1 x0 v.2.1 v.2.2 = some o4) (fun v => v.1) (n,(0,x1)) eo4 (St.sub_of [5,0,1] [] kr) ?_
  rintro ⟨mo4,y1,y2⟩ H
  have H : qu n mo4 x0 y1 y2 = some o4 := H
  obtain _ | mo4 := mo4
  ·exact nN H
  rw [qu] at H
  refine tS ?_
  refine rA 2 ?_
  refine kF x0 Link.row ?_
  refine uA 1 547 0 ?_
  obtain ⟨h1,H⟩ | ⟨h1,H⟩ := bC H
  ·refine nA h1 ?_
   refine Tr.exit ?_
   refine aJ ?_
   obtain rfl := si H
   have H := Ho4
   dsimp only at H
   exact jA y2 H [1] []
  refine tA h1 ?_
  refine tK ?_
  refine tS ?_
  refine tB ?_
  refine tS ?_
  refine rA 2 ?_
  obtain ⟨v5,ev5,H⟩ := bs H
  refine iA Link.row ev5 ?_
  refine uA 4 262179 0 ?_
  obtain ⟨h2,H⟩ | ⟨h2,H⟩ := bC H
  ·refine nA h2 ?_
   refine tK ?_
   refine gA 3 35 0 ?_
   refine tS ?_
   refine rA 2 ?_
   obtain ⟨v6,ev6,H⟩ := bs H
   refine iA Link.row ev6 ?_
   refine uA 4 134217763 0 ?_
   obtain ⟨h3,H⟩ | ⟨h3,H⟩ := bC H
   ·refine nA h3 ?_
    refine tK ?_
    refine gA 3 35 0 ?_
    refine tS ?_
    refine rA 2 ?_
    obtain ⟨v7,ev7,H⟩ := bs H
    refine iA Link.row ev7 ?_
    refine uA 4 68719476771 0 ?_
    obtain ⟨h4,H⟩ | ⟨h4,H⟩ := bC H
    ·refine nA h4 ?_
     refine tK ?_
     refine gA 3 35 0 ?_
     refine tS ?_
     refine rA 2 ?_
     obtain ⟨v8,ev8,H⟩ := bs H
     refine iA Link.row ev8 ?_
     refine uA 4 35184372088867 0 ?_
     refine sT ⟨49,0,[sB 45 (v8.Q != (IntKind.wrap .i64 ((IntKind.wrap .i64 ((IntKind.wrap .i64 (y2 + 1)) + 1)) + 1))),sI 1 (IntKind.wrap .i64 ((IntKind.wrap .i64 ((IntKind.wrap .i64 (y2 + 1)) + 1)) + 1)),sI 5 y1,sC 0 (cF 4 x0 Link.row)],[]⟩ ?_
     cases h5 : (v8.Q != (IntKind.wrap .i64 ((IntKind.wrap .i64 ((IntKind.wrap .i64 (y2 + 1)) + 1)) + 1)))
     ·have H := zG h5 H
      refine nB_ ?_
      refine tK ?_
      refine eA 3 35 0 ?_
      refine eA 3 35 0 ?_
      exact jB mo4 ((IntKind.wrap .i64 (y1 + 1)),(IntKind.wrap .i64 ((IntKind.wrap .i64 ((IntKind.wrap .i64 ((IntKind.wrap .i64 (y2 + 1)) + 1)) + 1)) + 1))) H [5,0,1] []
     have H := zH h5 H
     refine tB_ ?_
     refine gA 1 16 0 ?_
     refine te ?_
     obtain rfl := si H
     have H := Ho4
     dsimp only at H
     exact fJ [(false,[cI (-1)])] H
    refine tA h4 ?_
    refine gA 1 16 0 ?_
    refine te ?_
    obtain rfl := si H
    have H := Ho4
    dsimp only at H
    exact fJ [(false,[cI (-1)])] H
   refine tA h3 ?_
   refine gA 1 16 0 ?_
   refine te ?_
   obtain rfl := si H
   have H := Ho4
   dsimp only at H
   exact fJ [(false,[cI (-1)])] H
  refine tA h2 ?_
  refine gA 1 16 0 ?_
  refine te ?_
  obtain rfl := si H
  have H := Ho4
  dsimp only at H
  exact fJ [(false,[cI (-1)])] H
 rintro y3 H
 have H : (JE n y3) = some r := H
 unfold JE at H
 refine gA 2 16 0 ?_
 exact te (fJ [(false,[cI y3])] H)
def Jv (n : Nat) (y3 : Int) : Option (Int) :=
  (some y3)
def q9 (n : Nat) : Nat → (List Say) → Int → Int → Option ((Int) ⊕ (Int))
  | 0,_,_,_ => none
  | mo4 + 1,x0,y1,y2 => (bif (decide (y1 < (x0.length : Int))) then ((idx x0 y1).bind fun v5 => (bif (v5.Link != y2) then (some (Sum.inr (-1))) else ((idx x0 y1).bind fun v6 => (bif (decide ((3 : Int) ≠ 0)) then (bif (!(v6.Back == ((Int.tmod (IntKind.wrap .i64 (y2 + 1)) 3) == 0))) then (some (Sum.inr (-1))) else ((idx x0 y1).bind fun v8 => (bif (v8.V.Root != (IntKind.wrap .i64 ((IntKind.wrap .i64 (y2 + 1)) + 1))) then (some (Sum.inr (-1))) else ((idx x0 y1).bind fun v9 => (bif (v9.V.Co != (IntKind.wrap .i64 ((IntKind.wrap .i64 ((IntKind.wrap .i64 (y2 + 1)) + 1)) + 1))) then (some (Sum.inr (-1))) else ((idx x0 y1).bind fun v10 => (bif (v10.V.Hops != (IntKind.wrap .i64 ((IntKind.wrap .i64 ((IntKind.wrap .i64 ((IntKind.wrap .i64 (y2 + 1)) + 1)) + 1)) + 1))) then (some (Sum.inr (-1))) else ((idx x0 y1).bind fun v11 => (bif (v11.V.Bridge != (IntKind.wrap .i64 ((IntKind.wrap .i64 ((IntKind.wrap .i64 ((IntKind.wrap .i64 ((IntKind.wrap .i64 (y2 + 1)) + 1)) + 1)) + 1)) + 1))) then (some (Sum.inr (-1))) else ((idx x0 y1).bind fun v12 => (bif (v12.V.Port != (IntKind.wrap .i64 ((IntKind.wrap .i64 ((IntKind.wrap .i64 ((IntKind.wrap .i64 ((IntKind.wrap .i64 ((IntKind.wrap .i64 (y2 + 1)) + 1)) + 1)) + 1)) + 1)) + 1))) then (some (Sum.inr (-1))) else (q9 n mo4 x0 (IntKind.wrap .i64 (y1 + 1)) (IntKind.wrap .i64 ((IntKind.wrap .i64 ((IntKind.wrap .i64 ((IntKind.wrap .i64 ((IntKind.wrap .i64 ((IntKind.wrap .i64 ((IntKind.wrap .i64 (y2 + 1)) + 1)) + 1)) + 1)) + 1)) + 1)) + 1)))))))))))))) else none)))) else (some (Sum.inl y2)))
def Ja (n : Nat) (x0 : (List Say)) (x1 : Int) : Option (Int) :=
  ((q9 n n x0 0 x1).bind fun o => match o with | .inl y3 => (Jv n y3) | .inr r => some r)
theorem zJ0 (n : Nat) (x0 : (List Say)) (x1 : Int) (r : Int) (H : Ja n x0 x1 = some r) : zD Tryz.prog 129 [.val false [.sl false 7 (CV.frzEs (x0.map Say.row))],.val false [.lit (.int .i64 x1)]] [.val false [.lit (.int .i64 r)]] [] := by
 refine cW Tryz.func129 (fun g d => sl [g 0,sl [g 1] (.block 0 (.loop (sl [sl [g 2] (cn 9 .skip (.exit 0)),.block 1 (sl [sl [g 4] (cn 18 (sl [g 5] .ret) .skip),g 6,sl [g 7] (cn 29 (sl [g 8] .ret) .skip),g 9,sl [g 10] (cn 39 (sl [g 11] .ret) .skip),g 12,sl [g 13] (cn 49 (sl [g 14] .ret) .skip),g 15,sl [g 16] (cn 59 (sl [g 17] .ret) .skip),g 18,sl [g 19] (cn 69 (sl [g 20] .ret) .skip),g 21,sl [g 22] (cn 79 (sl [g 23] .ret) .skip)] (g 24))] (g 3)))),g 25] .ret) [.tmp 4] fun cx => ?_
 unfold Ja at H
 refine gA 1 3 0 ?_
 refine tS ?_
 refine gA 1 35 0 ?_
 obtain ⟨o4,eo4,Ho4⟩ := bs H
 clear H
 refine Tr.mid (ι := Int) (fun v => ⟨83,0,[sI 1 v],[]⟩) (fun v => Jv n v = some r) ?_ ?_
 ·refine tB ?_
  refine Tr.loop (ι := Nat × (Int × Int)) (fun v => ⟨83,0,[sI 5 v.2.1,sC 0 (cF 7 x0 Say.row),sI 1 v.2.2],[]⟩) (fun v => q9 n v.1 x0 v.2.1 v.2.2 = some o4) (fun v => v.1) (n,(0,x1)) eo4 (St.sub_of [5,0,1] [] kr) ?_
  rintro ⟨mo4,y1,y2⟩ H
  have H : q9 n mo4 x0 y1 y2 = some o4 := H
  obtain _ | mo4 := mo4
  ·exact nN H
  rw [q9] at H
  refine tS ?_
  refine rA 2 ?_
  refine kF x0 Say.row ?_
  refine uA 1 547 0 ?_
  obtain ⟨h1,H⟩ | ⟨h1,H⟩ := bC H
  ·refine nA h1 ?_
   refine Tr.exit ?_
   refine aJ ?_
   obtain rfl := si H
   have H := Ho4
   dsimp only at H
   exact jA y2 H [1] []
  refine tA h1 ?_
  refine tK ?_
  refine tS ?_
  refine tB ?_
  refine tS ?_
  refine rA 2 ?_
  obtain ⟨v5,ev5,H⟩ := bs H
  refine iA Say.row ev5 ?_
  refine uA 4 262179 0 ?_
  obtain ⟨h2,H⟩ | ⟨h2,H⟩ := bC H
  ·refine nA h2 ?_
   refine tK ?_
   refine gA 3 35 0 ?_
   refine tS ?_
   refine rA 2 ?_
   obtain ⟨v6,ev6,H⟩ := bs H
   refine iA Say.row ev6 ?_
   refine lA 3 ?_
   obtain ⟨hg7,H⟩ := gs H
   refine LAt.binC tOk (op := .rem) (t := 3) (ty := 3) (ty' := 3) (x := (.tmp 26)) (y := (.const (.int .i64 3))) (d := 27) (g := none) (.int .i64 (IntKind.wrap .i64 (y2 + 1))) (.int .i64 3) (.int .i64 (Int.tmod (IntKind.wrap .i64 (y2 + 1)) 3)) _ kr kr kr kr kr (φ := (IntKind.i64 = IntKind.i64 ∧ (3 : Int) ≠ 0)) kr (⟨rfl,of_decide_eq_true hg7⟩) rfl ?_
   refine uA 2 536870947 0 ?_
   obtain ⟨h3,H⟩ | ⟨h3,H⟩ := bC H
   ·refine nA h3 ?_
    refine tK ?_
    refine gA 3 35 0 ?_
    refine tS ?_
    refine rA 2 ?_
    obtain ⟨v8,ev8,H⟩ := bs H
    refine iA Say.row ev8 ?_
    refine uA 5 549755813923 0 ?_
    refine sT ⟨83,0,[sB 39 (v8.V.Root != (IntKind.wrap .i64 ((IntKind.wrap .i64 (y2 + 1)) + 1))),sI 1 (IntKind.wrap .i64 ((IntKind.wrap .i64 (y2 + 1)) + 1)),sI 5 y1,sC 0 (cF 7 x0 Say.row)],[]⟩ ?_
    cases h4 : (v8.V.Root != (IntKind.wrap .i64 ((IntKind.wrap .i64 (y2 + 1)) + 1)))
    ·have H := zG h4 H
     refine nB_ ?_
     refine tK ?_
     refine gA 3 35 0 ?_
     refine tS ?_
     refine rA 2 ?_
     obtain ⟨v9,ev9,H⟩ := bs H
     refine iA Say.row ev9 ?_
     refine uA 5 562949953421347 0 ?_
     obtain ⟨h5,H⟩ | ⟨h5,H⟩ := bC H
     ·refine nA h5 ?_
      refine tK ?_
      refine gA 3 35 0 ?_
      refine tS ?_
      refine rA 2 ?_
      obtain ⟨v10,ev10,H⟩ := bs H
      refine iA Say.row ev10 ?_
      refine uA 5 0x800000000000023 0 ?_
      obtain ⟨h6,H⟩ | ⟨h6,H⟩ := bC H
      ·refine nA h6 ?_
       refine tK ?_
       refine gA 3 35 0 ?_
       refine tS ?_
       refine rA 2 ?_
       obtain ⟨v11,ev11,H⟩ := bs H
       refine iA Say.row ev11 ?_
       refine uA 5 0x200000000000000023 0 ?_
       obtain ⟨h7,H⟩ | ⟨h7,H⟩ := bC H
       ·refine nA h7 ?_
        refine tK ?_
        refine gA 3 35 0 ?_
        refine tS ?_
        refine rA 2 ?_
        obtain ⟨v12,ev12,H⟩ := bs H
        refine iA Say.row ev12 ?_
        refine uA 5 0x80000000000000000023 0 ?_
        refine sT ⟨83,0,[sB 79 (v12.V.Port != (IntKind.wrap .i64 ((IntKind.wrap .i64 ((IntKind.wrap .i64 ((IntKind.wrap .i64 ((IntKind.wrap .i64 ((IntKind.wrap .i64 (y2 + 1)) + 1)) + 1)) + 1)) + 1)) + 1))),sI 1 (IntKind.wrap .i64 ((IntKind.wrap .i64 ((IntKind.wrap .i64 ((IntKind.wrap .i64 ((IntKind.wrap .i64 ((IntKind.wrap .i64 (y2 + 1)) + 1)) + 1)) + 1)) + 1)) + 1)),sI 5 y1,sC 0 (cF 7 x0 Say.row)],[]⟩ ?_
        cases h8 : (v12.V.Port != (IntKind.wrap .i64 ((IntKind.wrap .i64 ((IntKind.wrap .i64 ((IntKind.wrap .i64 ((IntKind.wrap .i64 ((IntKind.wrap .i64 (y2 + 1)) + 1)) + 1)) + 1)) + 1)) + 1)))
        ·have H := zG h8 H
         refine nB_ ?_
         refine tK ?_
         refine eA 3 35 0 ?_
         refine eA 3 35 0 ?_
         exact jB mo4 ((IntKind.wrap .i64 (y1 + 1)),(IntKind.wrap .i64 ((IntKind.wrap .i64 ((IntKind.wrap .i64 ((IntKind.wrap .i64 ((IntKind.wrap .i64 ((IntKind.wrap .i64 ((IntKind.wrap .i64 (y2 + 1)) + 1)) + 1)) + 1)) + 1)) + 1)) + 1))) H [5,0,1] []
        have H := zH h8 H
        refine tB_ ?_
        refine gA 1 16 0 ?_
        refine te ?_
        obtain rfl := si H
        have H := Ho4
        dsimp only at H
        exact fJ [(false,[cI (-1)])] H
       refine tA h7 ?_
       refine gA 1 16 0 ?_
       refine te ?_
       obtain rfl := si H
       have H := Ho4
       dsimp only at H
       exact fJ [(false,[cI (-1)])] H
      refine tA h6 ?_
      refine gA 1 16 0 ?_
      refine te ?_
      obtain rfl := si H
      have H := Ho4
      dsimp only at H
      exact fJ [(false,[cI (-1)])] H
     refine tA h5 ?_
     refine gA 1 16 0 ?_
     refine te ?_
     obtain rfl := si H
     have H := Ho4
     dsimp only at H
     exact fJ [(false,[cI (-1)])] H
    have H := zH h4 H
    refine tB_ ?_
    refine gA 1 16 0 ?_
    refine te ?_
    obtain rfl := si H
    have H := Ho4
    dsimp only at H
    exact fJ [(false,[cI (-1)])] H
   refine tA h3 ?_
   refine gA 1 16 0 ?_
   refine te ?_
   obtain rfl := si H
   have H := Ho4
   dsimp only at H
   exact fJ [(false,[cI (-1)])] H
  refine tA h2 ?_
  refine gA 1 16 0 ?_
  refine te ?_
  obtain rfl := si H
  have H := Ho4
  dsimp only at H
  exact fJ [(false,[cI (-1)])] H
 rintro y3 H
 have H : (Jv n y3) = some r := H
 unfold Jv at H
 refine gA 2 16 0 ?_
 exact te (fJ [(false,[cI y3])] H)
def Yf (n : Nat) (x0 : Net) (x1 : Int) : Option (Int) :=
  ((Qy n x0.Bs x1).bind fun r1 => (bif (decide (r1 < 0)) then (some (-1)) else ((Yv n x0.Ls r1).bind fun r2 => (bif (decide (r2 < 0)) then (some (-1)) else ((Ja n x0.Said r2).bind fun r3 => (bif (decide (r3 < 0)) then (some (-1)) else (some r3)))))))
theorem zF0 (n : Nat) (x0 : Net) (x1 : Int) (r : Int) (H : Yf n x0 x1 = some r) : zD Tryz.prog 30 [.val true (CV.frzRow (Net.row x0)),.val false [.lit (.int .i64 x1)]] [.val false [.lit (.int .i64 r)]] [] := by
 refine cW Tryz.func30 (fun g d => sl [g 0,g 1,sl [g 2] (cn 10 (sl [g 3] .ret) .skip),g 4,sl [g 5] (cn 16 (sl [g 6] .ret) .skip),g 7,sl [g 8] (cn 22 (sl [g 9] .ret) .skip),g 10] .ret) [.tmp 4] fun cx => ?_
 unfold Yf at H
 refine gA 2 6 4 ?_
 refine rA 3 ?_
 obtain ⟨r1,er1,H⟩ := bs H
 refine vA [.rd,.rd] (zHT n x0.Bs x1 r1 er1) ?_
 refine uA 1 6 4 ?_
 refine tS ?_
 refine gA 2 1030 4 ?_
 obtain ⟨h1,H⟩ | ⟨h1,H⟩ := bC H
 ·refine nA h1 ?_
  refine tK ?_
  refine rA 3 ?_
  obtain ⟨r2,er2,H⟩ := bs H
  refine vA [.rd,.rd] (zI0 n x0.Ls r1 r2 er2) ?_
  refine uA 1 6 4 ?_
  refine tS ?_
  refine gA 2 65542 4 ?_
  obtain ⟨h2,H⟩ | ⟨h2,H⟩ := bC H
  ·refine nA h2 ?_
   refine tK ?_
   refine rA 3 ?_
   obtain ⟨r3,er3,H⟩ := bs H
   refine vA [.rd,.rd] (zJ0 n x0.Said r2 r3 er3) ?_
   refine uA 1 2 0 ?_
   refine tS ?_
   refine gA 2 4194306 0 ?_
   obtain ⟨h3,H⟩ | ⟨h3,H⟩ := bC H
   ·refine nA h3 ?_
    refine tK ?_
    refine gA 2 16 0 ?_
    exact te (fJ [(false,[cI r3])] H)
   refine tA h3 ?_
   refine gA 1 16 0 ?_
   exact te (fJ [(false,[cI (-1)])] H)
  refine tA h2 ?_
  refine gA 1 16 0 ?_
  exact te (fJ [(false,[cI (-1)])] H)
 refine tA h1 ?_
 refine gA 1 16 0 ?_
 exact te (fJ [(false,[cI (-1)])] H)
def Ys (n : Nat) (x0 : Net) (x1 : (List Event)) : Option (Bool) :=
  ((zBY n x0 1048576).bind fun r1 => (bif (decide (r1 < 0)) then (some true) else ((zBG n x1 r1).bind fun r2 => (bif (decide (r2 < 0)) then (some true) else ((Q7 n x0).bind fun r3 => ((QI n x1).bind fun r4 => ((zBc n r3 r4).bind fun r5 => ((Q7 n x0).bind fun r6 => ((QI n x1).bind fun r7 => ((zAJ n r6 r7).bind fun r8 => ((Q6 n r8 r5).bind fun r9 => (bif (!r9) then (some false) else ((Q7 n x0).bind fun r10 => ((Q6 n r6 r10).bind fun r11 => (bif (!r11) then (some false) else ((QI n x1).bind fun r12 => ((JV n r7 r12).bind fun r13 => (bif (!r13) then (some false) else ((Yg n r6 1).bind fun r14 => ((YN n r7 r14.1).bind fun r15 => (bif (decide (r15.1 < 0)) then (some false) else ((Q6 n r8 r5).bind fun r16 => (bif (!r16) then (some false) else ((Yg n r8 1).bind fun r17 => ((Yf n r17.2 1).bind fun r18 => (bif (decide (r18 < 0)) then (some false) else (bif (r18 != r17.1) then (some false) else ((Q7 n x0).bind fun r19 => ((QI n x1).bind fun r20 => ((zAJ n r19 r20).bind fun r21 => ((Q6 n r21 r5).bind fun r22 => (bif (!r22) then (some false) else ((Yf n r17.2 1).bind fun r23 => (bif (decide (r23 < 0)) then (some false) else (bif (r23 != r17.1) then (some false) else (some true))))))))))))))))))))))))))))))))))))
theorem zGe (n : Nat) (x0 : Net) (x1 : (List Event)) (r : Bool) (H : Ys n x0 x1 = some r) : zD Tryz.prog 5 [.val true (CV.frzRow (Net.row x0)),.val false [.sl false 2 (CV.frzEs (x1.map Event.row))]] [.val false [.lit (.bool r)]] [] := by
 refine cW Tryz.func5 (fun g d => sl [g 0,g 1,g 2,sl [g 3] (cn 18 (sl [g 4] .ret) .skip),g 5,sl [g 6] (cn 23 (sl [g 7] .ret) .skip),g 8,g 9,g 10,g 11,sl [g 12] (cn 39 (sl [g 13] .ret) .skip),sl [d 14] (cn 44 (sl [g 15] .ret) .skip),sl [g 16] (cn 49 (sl [g 17] .ret) .skip),g 18,g 19,g 20,sl [g 21] (cn 63 (sl [g 22] .ret) .skip),g 23,g 24,g 25,g 26,sl [g 27] (cn 71 (sl [g 28] .ret) .skip),sl [g 29] (cn 74 (sl [g 30] .ret) .skip),g 31,sl [g 32] (cn 83 (sl [g 33] .ret) .skip),g 34,g 35,sl [g 36] (cn 88 (sl [g 37] .ret) .skip),sl [g 38] (cn 91 (sl [g 39] .ret) .skip),g 40] .ret) [.tmp 4] fun cx => ?_
 unfold Ys at H
 refine gA 2 6 4 ?_
 refine gA 1 38 4 ?_
 refine rA 2 ?_
 obtain ⟨r1,er1,H⟩ := bs H
 refine vA [.rd,.rd] (zMN n x0 1048576 r1 er1) ?_
 refine uA 1 38 4 ?_
 refine tS ?_
 refine gA 2 262182 4 ?_
 obtain ⟨h1,H⟩ | ⟨h1,H⟩ := bC H
 ·refine nA h1 ?_
  refine tK ?_
  refine rA 2 ?_
  obtain ⟨r2,er2,H⟩ := bs H
  refine vA [.rd,.rd] (zJ4 n x1 r1 r2 er2) ?_
  refine uA 1 38 4 ?_
  refine tS ?_
  refine gA 2 8388614 4 ?_
  obtain ⟨h2,H⟩ | ⟨h2,H⟩ := bC H
  ·refine nA h2 ?_
   refine tK ?_
   refine rA 1 ?_
   obtain ⟨r3,er3,H⟩ := bs H
   refine vA [.rd] (zDl n x0 r3 er3) ?_
   refine lA 1 ?_
   obtain ⟨r4,er4,H⟩ := bs H
   refine vA [.rd] (zBu n x1 r4 er4) ?_
   obtain ⟨r5,er5,H⟩ := bs H
   refine vA [.rd,.rd] (zMb n r3 r4 r5 er5) ?_
   refine uA 2 70 68 ?_
   refine rA 1 ?_
   obtain ⟨r6,er6,H⟩ := bs H
   refine vA [.rd] (zDl n x0 r6 er6) ?_
   refine uA 2 198 196 ?_
   refine rA 1 ?_
   obtain ⟨r7,er7,H⟩ := bs H
   refine vA [.rd] (zBu n x1 r7 er7) ?_
   refine LAt.moveU (T := lk tab) (ty := 79) (x := (.tmp 32)) (d := 8) (g := none) false [cL 2 r7 Event.row] kr kr kr kr kr ?_
   refine dA 454 196 ?_
   refine rA 2 ?_
   obtain ⟨r8,er8,H⟩ := bs H
   refine vB [.rd,.rd] [.box 7,.slot 8] (zIB n r6 r7 r8 er8) (.inr (zk (Net.row_mine _) zy)) ?_
   refine uA 2 966 708 ?_
   refine tS ?_
   refine rA 2 ?_
   obtain ⟨r9,er9,H⟩ := bs H
   refine vB [.rd,.rd] [.box 9,.box 6] (zDk n r8 r5 r9 er9) (.inr (zk (zJ zM zz) zy)) ?_
   refine uA 1 549755814854 708 ?_
   refine sT ⟨92,0,[sB 39 (!r9),sA 9 9 3 0,sC 8 (cL 2 r7 Event.row),sA 7 7 3 0,sA 6 6 3 0,sA 2 2 3 0,sC 1 (cF 2 x1 Event.row)],[(9,(Net.row r8)),(7,(Net.row r6)),(6,(Net.row r5)),(2,(CV.frzRow (Net.row x0)))]⟩ ?_
   cases h3 : (!r9)
   ·have H := zG h3 H
    refine nB_ ?_
    refine tK ?_
    refine tS ?_
    obtain ⟨r10,er10,H⟩ := bs H
    obtain ⟨r11,er11,H⟩ := bs H
    refine Tr.draws mixed 5 kr ⟨92,0,[sB 44 (!r11),sA 9 9 3 0,sC 8 (cL 2 r7 Event.row),sA 7 7 3 0,sA 6 6 3 0,sA 2 2 3 0,sC 1 (cF 2 x1 Event.row)],[(9,(Net.row r8)),(7,(Net.row r6)),(6,(Net.row r5)),(2,(CV.frzRow (Net.row x0)))]⟩ (fun cx => ?_) ?_
    ·refine aA [(0,[3]),(1,[2,3])] 3 [⟨[2,3],59,2,41⟩,⟨[3],67,7,40⟩] fun cx => ?_
     refine bA 2 ?_
     refine vA [.rd] (zDl n x0 r10 er10) ?_
     refine fA ?_
     refine bA 3 ?_
     refine vB [.rd,.rd] [.box 7] (zDk n r6 r10 r11 er11) (.inr (zk (zJ zM zz) zy)) ?_
     refine fA ?_
     refine aA [(4,[])] 0 [⟨[2,3],59,2,41⟩,⟨[3],67,7,40⟩] fun cx => ?_
     exact eE [44,9,8,7,6,2,1] [9,7,6,2]
    refine sT ⟨92,0,[sB 44 (!r11),sA 9 9 3 0,sC 8 (cL 2 r7 Event.row),sA 7 7 3 0,sA 6 6 3 0,sA 2 2 3 0,sC 1 (cF 2 x1 Event.row)],[(9,(Net.row r8)),(7,(Net.row r6)),(6,(Net.row r5)),(2,(CV.frzRow (Net.row x0)))]⟩ ?_
    cases h4 : (!r11)
    ·have H := zG h4 H
     refine nB_ ?_
     refine tK ?_
     refine tS ?_
     refine rA 2 ?_
     obtain ⟨r12,er12,H⟩ := bs H
     refine vA [.rd] (zBu n x1 r12 er12) ?_
     obtain ⟨r13,er13,H⟩ := bs H
     refine vB [.rd,.rd] [.slot 8] (zJy n r7 r12 r13 er13) (.inr (zk (zJ zM zz) zy)) ?_
     refine uA 1 562949953422278 708 ?_
     obtain ⟨h5,H⟩ | ⟨h5,H⟩ := bC H
     ·refine nA h5 ?_
      refine tK ?_
      refine gA 1 1990 708 ?_
      refine rA 2 ?_
      obtain ⟨r14,er14,H⟩ := bs H
      refine LAt.callL tOk [.lend,.rd] (f := 29) (av := #[.tmp 50,.tmp 51]) (ats := #[67,3]) (d := (some 52)) (ty := 3) (g := none) kr kr kr [] (zF4 n r6 1 r14 er14) kr (.inl rfl) ?_
      refine uA 1 1862 580 ?_
      refine rA 2 ?_
      obtain ⟨r15,er15,H⟩ := bs H
      refine LAt.callL tOk [.lend,.rd] (f := 36) (av := #[.tmp 53,.tmp 54]) (ats := #[79,3]) (d := (some 55)) (ty := 3) (g := none) kr kr kr [] (zIH n r7 r14.1 r15 er15) kr (.inl rfl) ?_
      refine uA 1 1606 580 ?_
      refine tS ?_
      refine rA 3 ?_
      refine sL 0x400000000000246 580 ⟨92,0,[sB 58 (decide (r15.1 < 0)),sA 9 9 3 0,sA 6 6 3 0,sA 2 2 3 0,sC 1 (cF 2 x1 Event.row)],[(9,(Net.row r8)),(6,(Net.row r5)),(2,(CV.frzRow (Net.row x0)))]⟩ ?_
      cases h6 : (decide (r15.1 < 0))
      ·have H := zG h6 H
       refine lA 2 ?_
       obtain ⟨r16,er16,H⟩ := bs H
       refine vB [.rd,.rd] [.box 9,.box 6] (zDk n r8 r5 r16 er16) (.inr (zk (zJ zM zz) zy)) ?_
       refine uA 2 0x8000000000000246 580 ?_
       obtain ⟨h7,H⟩ | ⟨h7,H⟩ := bC H
       ·refine nA h7 ?_
        refine tK ?_
        refine gA 1 2630 580 ?_
        refine rA 2 ?_
        obtain ⟨r17,er17,H⟩ := bs H
        refine LAt.callL tOk [.lend,.rd] (f := 29) (av := #[.tmp 64,.tmp 65]) (ats := #[67,3]) (d := (some 66)) (ty := 3) (g := none) kr kr kr [] (zF4 n r8 1 r17 er17) kr (.inl rfl) ?_
        refine uA 1 2630 580 ?_
        refine gA 1 6726 580 ?_
        refine rA 2 ?_
        obtain ⟨r18,er18,H⟩ := bs H
        refine vB [.rd,.rd] [.box 9] (zF0 n r17.2 1 r18 er18) (.inr (zk (zJ zM zz) zy)) ?_
        refine uA 1 6726 580 ?_
        refine tS ?_
        refine gA 2 0x800000000000001a46 580 ?_
        obtain ⟨h8,H⟩ | ⟨h8,H⟩ := bC H
        ·refine nA h8 ?_
         refine tK ?_
         refine tS ?_
         refine gA 3 0x4000000000000000a46 580 ?_
         obtain ⟨h9,H⟩ | ⟨h9,H⟩ := bC H
         ·refine nA h9 ?_
          refine tK ?_
          refine rA 1 ?_
          obtain ⟨r19,er19,H⟩ := bs H
          refine vA [.rd] (zDl n x0 r19 er19) ?_
          refine lA 1 ?_
          obtain ⟨r20,er20,H⟩ := bs H
          refine vA [.rd] (zBu n x1 r20 er20) ?_
          obtain ⟨r21,er21,H⟩ := bs H
          refine vA [.rd,.rd] (zIB n r19 r20 r21 er21) ?_
          refine uA 2 10816 8768 ?_
          refine tS ?_
          refine rA 2 ?_
          obtain ⟨r22,er22,H⟩ := bs H
          refine vB [.rd,.rd] [.box 13,.box 6] (zDk n r21 r5 r22 er22) (.inr (zk (zJ zM zz) zy)) ?_
          refine uA 1 0x800000000000000000a00 512 ?_
          refine sT ⟨92,0,[sB 83 (!r22),sI 11 r17.1,sA 9 9 3 0],[(9,(Net.row r17.2))]⟩ ?_
          cases h10 : (!r22)
          ·have H := zG h10 H
           refine nB_ ?_
           refine tK ?_
           refine gA 1 6656 512 ?_
           refine rA 2 ?_
           obtain ⟨r23,er23,H⟩ := bs H
           refine vB [.rd,.rd] [.box 9] (zF0 n r17.2 1 r23 er23) (.inr (zk (zJ zM zz) zy)) ?_
           refine uA 1 6144 0 ?_
           refine tS ?_
           refine gA 2 0x10000000000000000001800 0 ?_
           obtain ⟨h11,H⟩ | ⟨h11,H⟩ := bC H
           ·refine nA h11 ?_
            refine tK ?_
            refine tS ?_
            refine gA 3 0x80000000000000000000000 0 ?_
            obtain ⟨h12,H⟩ | ⟨h12,H⟩ := bC H
            ·refine nA h12 ?_
             refine tK ?_
             refine gA 1 16 0 ?_
             exact te (fT H)
            refine tA h12 ?_
            refine gA 1 16 0 ?_
            exact te (fF H)
           refine tA h11 ?_
           refine gA 1 16 0 ?_
           exact te (fF H)
          have H := zH h10 H
          refine tB_ ?_
          refine gA 1 16 0 ?_
          exact te (fF H)
         refine tA h9 ?_
         refine gA 1 16 0 ?_
         exact te (fF H)
        refine tA h8 ?_
        refine gA 1 16 0 ?_
        exact te (fF H)
       refine tA h7 ?_
       refine gA 1 16 0 ?_
       exact te (fF H)
      have H := zH h6 H
      refine uA 5 0x8000000000000246 580 ?_
      refine tB_ ?_
      refine gA 1 16 0 ?_
      exact te (fF H)
     refine tA h5 ?_
     refine gA 1 16 0 ?_
     exact te (fF H)
    have H := zH h4 H
    refine tB_ ?_
    refine gA 1 16 0 ?_
    exact te (fF H)
   have H := zH h3 H
   refine tB_ ?_
   refine gA 1 16 0 ?_
   exact te (fF H)
  refine tA h2 ?_
  refine gA 1 16 0 ?_
  exact te (fT H)
 refine tA h1 ?_
 refine gA 1 16 0 ?_
 exact te (fT H)
end Go.Proofs.YtcegokjpmppdbaaGreat.Tw
