import Derived.Test.YtcegokjpmppdbaaGreatProg
import Derived.Test.YtcegokjpmppdbaaGreatTlRule
import Derived.Test.YtcegokjpmppdbaaGreatTlU11
import Derived.Test.YtcegokjpmppdbaaGreatTwST2
import Derived.WalkKit
set_option linter.unusedVariables false
set_option linter.unusedSimpArgs false
set_option maxRecDepth 100000
set_option maxHeartbeats 1000000
namespace Go.Proofs.YtcegokjpmppdbaaGreat.Tw
open Go Go.TL Go.Proofs
def Y9 (n : Nat) (y4 : (List Link)) (y5 : Int) : Option (Int × (List Link)) :=
  (some (y5,y4))
def qw (n : Nat) : Nat → Int → (List Link) → Int → Option (((List Link) × Int) ⊕ (Int × (List Link)))
  | 0,_,_,_ => none
  | mo6 + 1,y1,y2,y3 => (bif (decide (y1 < (y2.length : Int))) then ((idx y2 y1).bind fun v7 => ((idx (y2.set (y1.toNat) (⟨y3,v7.P,v7.B,v7.Q⟩ : Link)) y1).bind fun v8 => ((idx ((y2.set (y1.toNat) (⟨y3,v7.P,v7.B,v7.Q⟩ : Link)).set (y1.toNat) (⟨v8.A,(IntKind.wrap .i64 (y3 + 1)),v8.B,v8.Q⟩ : Link)) y1).bind fun v9 => ((idx (((y2.set (y1.toNat) (⟨y3,v7.P,v7.B,v7.Q⟩ : Link)).set (y1.toNat) (⟨v8.A,(IntKind.wrap .i64 (y3 + 1)),v8.B,v8.Q⟩ : Link)).set (y1.toNat) (⟨v9.A,v9.P,(IntKind.wrap .i64 ((IntKind.wrap .i64 (y3 + 1)) + 1)),v9.Q⟩ : Link)) y1).bind fun v10 => (qw n mo6 (IntKind.wrap .i64 (y1 + 1)) ((((y2.set (y1.toNat) (⟨y3,v7.P,v7.B,v7.Q⟩ : Link)).set (y1.toNat) (⟨v8.A,(IntKind.wrap .i64 (y3 + 1)),v8.B,v8.Q⟩ : Link)).set (y1.toNat) (⟨v9.A,v9.P,(IntKind.wrap .i64 ((IntKind.wrap .i64 (y3 + 1)) + 1)),v9.Q⟩ : Link)).set (y1.toNat) (⟨v10.A,v10.P,v10.B,(IntKind.wrap .i64 ((IntKind.wrap .i64 ((IntKind.wrap .i64 (y3 + 1)) + 1)) + 1))⟩ : Link)) (IntKind.wrap .i64 ((IntKind.wrap .i64 ((IntKind.wrap .i64 ((IntKind.wrap .i64 (y3 + 1)) + 1)) + 1)) + 1))))))) else (some (Sum.inl (y2,y3))))
def Yp (n : Nat) (x0 : (List Link)) (x1 : Int) : Option (Int × (List Link)) :=
  ((qw n n 0 x0 x1).bind fun o => match o with | .inl (y4,y5) => (Y9 n y4 y5) | .inr r => some r)
noncomputable abbrev zCN (k : Nat) := Rg Tryz.f125 k
theorem zIg (n : Nat) (x0 : (List Link)) (x1 : Int) (r : Int × (List Link)) (H : Yp n x0 x1 = some r) : zD Tryz.prog 125 [.io false [.sl true 4 (x0.map Link.row)],.val false [.lit (.int .i64 x1)]] [.val false [.lit (.int .i64 r.1)]] [(0,[.sl true 4 (r.2.map Link.row)])] := by
 refine zD.of_body tOk Tryz.func125 rfl (c := (.seq (zCN 0) (.seq (.seq (zCN 1) (.block 0 (.loop (.seq (.seq (zCN 2) (.cond (.tmp 9) .skip (.exit 0))) (.seq (.block 1 (.seq (zCN 4) (.seq (zCN 5) (.seq (zCN 6) (.seq (zCN 7) (.seq (zCN 8) (.seq (zCN 9) (.seq (zCN 10) (zCN 11))))))))) (zCN 3)))))) (.seq (zCN 12) .ret)))) kr (Nat.le_of_ble_eq_true kr) 1 (rs := [.tmp 4]) rfl [0] (by decide) [(false,[.lit (.int .i64 r.1)])] [[.sl true 4 (r.2.map Link.row)]] [] fun cx => ?_
 show Tr _ _ _ ⟨41,1,[sC 0 (cL 4 x0 Link.row),sI 1 x1],[]⟩ _
 unfold Yp at H
 refine gA 1 3 0 ?_
 refine tS ?_
 refine gA 1 35 0 ?_
 obtain ⟨o6,eo6,Ho6⟩ := bs H
 clear H
 refine Tr.mid (ι := (List Link) × Int) (fun v => ⟨41,1,[sC 0 (cL 4 v.1 Link.row),sI 1 v.2],[]⟩) (fun v => Y9 n v.1 v.2 = some r) ?_ ?_
 ·refine tB ?_
  refine Tr.loop (ι := Nat × (Int × (List Link) × Int)) (fun v => ⟨41,1,[sI 5 v.2.1,sC 0 (cL 4 v.2.2.1 Link.row),sI 1 v.2.2.2],[]⟩) (fun v => qw n v.1 v.2.1 v.2.2.1 v.2.2.2 = some o6) (fun v => v.1) (n,(0,x0,x1)) eo6 (St.sub_of [5,0,1] [] kr) ?_
  rintro ⟨mo6,y1,y2,y3⟩ H
  have H : qw n mo6 y1 y2 y3 = some o6 := H
  obtain _ | mo6 := mo6
  ·exact nN H
  rw [qw] at H
  refine tS ?_
  refine rA 2 ?_
  refine kO y2 Link.row ?_
  refine uA 1 547 0 ?_
  obtain ⟨h1,H⟩ | ⟨h1,H⟩ := bC H
  ·refine nA h1 ?_
   refine Tr.exit ?_
   refine And.intro (fun _ => ?_) (fun h => absurd rfl h)
   obtain rfl := si H
   have H := Ho6
   dsimp only at H
   exact jA (y2,y3) H [0,1] []
  refine tA h1 ?_
  refine tK ?_
  refine tS ?_
  refine tB ?_
  refine rA 3 ?_
  obtain ⟨v7,ev7,H⟩ := bs H
  refine oA Link.row ev7 ?_
  refine lA 1 ?_
  refine sS (tI 3) false [cI y3] 0 0 (y1.toNat) 4 0 4 Link.row (⟨y3,v7.P,v7.B,v7.Q⟩ : Link) (zI ev7).2 ?_
  refine dA 35 0 ?_
  refine gA 3 35 0 ?_
  refine rA 3 ?_
  obtain ⟨v8,ev8,H⟩ := bs H
  refine oA Link.row ev8 ?_
  refine lA 1 ?_
  refine sS (tI 3) false [cI (IntKind.wrap .i64 (y3 + 1))] 0 0 (y1.toNat) 4 1 4 Link.row (⟨v8.A,(IntKind.wrap .i64 (y3 + 1)),v8.B,v8.Q⟩ : Link) (zI ev8).2 ?_
  refine dA 35 0 ?_
  refine gA 3 35 0 ?_
  refine rA 3 ?_
  obtain ⟨v9,ev9,H⟩ := bs H
  refine oA Link.row ev9 ?_
  refine lA 1 ?_
  refine sS (tI 3) false [cI (IntKind.wrap .i64 ((IntKind.wrap .i64 (y3 + 1)) + 1))] 0 0 (y1.toNat) 4 2 4 Link.row (⟨v9.A,v9.P,(IntKind.wrap .i64 ((IntKind.wrap .i64 (y3 + 1)) + 1)),v9.Q⟩ : Link) (zI ev9).2 ?_
  refine dA 35 0 ?_
  refine gA 3 35 0 ?_
  refine rA 3 ?_
  obtain ⟨v10,ev10,H⟩ := bs H
  refine oA Link.row ev10 ?_
  refine lA 1 ?_
  refine sS (tI 3) false [cI (IntKind.wrap .i64 ((IntKind.wrap .i64 ((IntKind.wrap .i64 (y3 + 1)) + 1)) + 1))] 0 0 (y1.toNat) 4 3 4 Link.row (⟨v10.A,v10.P,v10.B,(IntKind.wrap .i64 ((IntKind.wrap .i64 ((IntKind.wrap .i64 (y3 + 1)) + 1)) + 1))⟩ : Link) (zI ev10).2 ?_
  refine dA 35 0 ?_
  refine eA 3 35 0 ?_
  refine eA 3 35 0 ?_
  exact jB mo6 ((IntKind.wrap .i64 (y1 + 1)),((((y2.set (y1.toNat) (⟨y3,v7.P,v7.B,v7.Q⟩ : Link)).set (y1.toNat) (⟨v8.A,(IntKind.wrap .i64 (y3 + 1)),v8.B,v8.Q⟩ : Link)).set (y1.toNat) (⟨v9.A,v9.P,(IntKind.wrap .i64 ((IntKind.wrap .i64 (y3 + 1)) + 1)),v9.Q⟩ : Link)).set (y1.toNat) (⟨v10.A,v10.P,v10.B,(IntKind.wrap .i64 ((IntKind.wrap .i64 ((IntKind.wrap .i64 (y3 + 1)) + 1)) + 1))⟩ : Link)),(IntKind.wrap .i64 ((IntKind.wrap .i64 ((IntKind.wrap .i64 ((IntKind.wrap .i64 (y3 + 1)) + 1)) + 1)) + 1))) H [5,0,1] []
 rintro ⟨y4,y5⟩ H
 have H : (Y9 n y4 y5) = some r := H
 unfold Y9 at H
 refine gA 2 17 0 ?_
 refine te ?_
 obtain rfl := si H
 exact Fin.ofY _ [(false,[cI y5])] [false] _ [[cL 4 y4 Link.row]] _ [] kr rfl rfl rfl kr kr kr kr rfl rfl rfl
def Jm (n : Nat) (y4 : (List Say)) (y5 : Int) : Option (Int × (List Say)) :=
  (some (y5,y4))
def q9 (n : Nat) : Nat → Int → (List Say) → Int → Option (((List Say) × Int) ⊕ (Int × (List Say)))
  | 0,_,_,_ => none
  | mo6 + 1,y1,y2,y3 => (bif (decide (y1 < (y2.length : Int))) then ((idx y2 y1).bind fun v7 => (bif (decide ((3 : Int) ≠ 0)) then ((idx (y2.set (y1.toNat) (⟨y3,v7.Back,v7.V⟩ : Say)) y1).bind fun v9 => ((idx ((y2.set (y1.toNat) (⟨y3,v7.Back,v7.V⟩ : Say)).set (y1.toNat) (⟨v9.Link,((Int.tmod (IntKind.wrap .i64 (y3 + 1)) 3) == 0),v9.V⟩ : Say)) y1).bind fun v10 => ((idx (((y2.set (y1.toNat) (⟨y3,v7.Back,v7.V⟩ : Say)).set (y1.toNat) (⟨v9.Link,((Int.tmod (IntKind.wrap .i64 (y3 + 1)) 3) == 0),v9.V⟩ : Say)).set (y1.toNat) (⟨v10.Link,v10.Back,(⟨(IntKind.wrap .i64 ((IntKind.wrap .i64 (y3 + 1)) + 1)),v10.V.Co,v10.V.Hops,v10.V.Bridge,v10.V.Port⟩ : Vec)⟩ : Say)) y1).bind fun v11 => ((idx ((((y2.set (y1.toNat) (⟨y3,v7.Back,v7.V⟩ : Say)).set (y1.toNat) (⟨v9.Link,((Int.tmod (IntKind.wrap .i64 (y3 + 1)) 3) == 0),v9.V⟩ : Say)).set (y1.toNat) (⟨v10.Link,v10.Back,(⟨(IntKind.wrap .i64 ((IntKind.wrap .i64 (y3 + 1)) + 1)),v10.V.Co,v10.V.Hops,v10.V.Bridge,v10.V.Port⟩ : Vec)⟩ : Say)).set (y1.toNat) (⟨v11.Link,v11.Back,(⟨v11.V.Root,(IntKind.wrap .i64 ((IntKind.wrap .i64 ((IntKind.wrap .i64 (y3 + 1)) + 1)) + 1)),v11.V.Hops,v11.V.Bridge,v11.V.Port⟩ : Vec)⟩ : Say)) y1).bind fun v12 => ((idx (((((y2.set (y1.toNat) (⟨y3,v7.Back,v7.V⟩ : Say)).set (y1.toNat) (⟨v9.Link,((Int.tmod (IntKind.wrap .i64 (y3 + 1)) 3) == 0),v9.V⟩ : Say)).set (y1.toNat) (⟨v10.Link,v10.Back,(⟨(IntKind.wrap .i64 ((IntKind.wrap .i64 (y3 + 1)) + 1)),v10.V.Co,v10.V.Hops,v10.V.Bridge,v10.V.Port⟩ : Vec)⟩ : Say)).set (y1.toNat) (⟨v11.Link,v11.Back,(⟨v11.V.Root,(IntKind.wrap .i64 ((IntKind.wrap .i64 ((IntKind.wrap .i64 (y3 + 1)) + 1)) + 1)),v11.V.Hops,v11.V.Bridge,v11.V.Port⟩ : Vec)⟩ : Say)).set (y1.toNat) (⟨v12.Link,v12.Back,(⟨v12.V.Root,v12.V.Co,(IntKind.wrap .i64 ((IntKind.wrap .i64 ((IntKind.wrap .i64 ((IntKind.wrap .i64 (y3 + 1)) + 1)) + 1)) + 1)),v12.V.Bridge,v12.V.Port⟩ : Vec)⟩ : Say)) y1).bind fun v13 => ((idx ((((((y2.set (y1.toNat) (⟨y3,v7.Back,v7.V⟩ : Say)).set (y1.toNat) (⟨v9.Link,((Int.tmod (IntKind.wrap .i64 (y3 + 1)) 3) == 0),v9.V⟩ : Say)).set (y1.toNat) (⟨v10.Link,v10.Back,(⟨(IntKind.wrap .i64 ((IntKind.wrap .i64 (y3 + 1)) + 1)),v10.V.Co,v10.V.Hops,v10.V.Bridge,v10.V.Port⟩ : Vec)⟩ : Say)).set (y1.toNat) (⟨v11.Link,v11.Back,(⟨v11.V.Root,(IntKind.wrap .i64 ((IntKind.wrap .i64 ((IntKind.wrap .i64 (y3 + 1)) + 1)) + 1)),v11.V.Hops,v11.V.Bridge,v11.V.Port⟩ : Vec)⟩ : Say)).set (y1.toNat) (⟨v12.Link,v12.Back,(⟨v12.V.Root,v12.V.Co,(IntKind.wrap .i64 ((IntKind.wrap .i64 ((IntKind.wrap .i64 ((IntKind.wrap .i64 (y3 + 1)) + 1)) + 1)) + 1)),v12.V.Bridge,v12.V.Port⟩ : Vec)⟩ : Say)).set (y1.toNat) (⟨v13.Link,v13.Back,(⟨v13.V.Root,v13.V.Co,v13.V.Hops,(IntKind.wrap .i64 ((IntKind.wrap .i64 ((IntKind.wrap .i64 ((IntKind.wrap .i64 ((IntKind.wrap .i64 (y3 + 1)) + 1)) + 1)) + 1)) + 1)),v13.V.Port⟩ : Vec)⟩ : Say)) y1).bind fun v14 => (q9 n mo6 (IntKind.wrap .i64 (y1 + 1)) (((((((y2.set (y1.toNat) (⟨y3,v7.Back,v7.V⟩ : Say)).set (y1.toNat) (⟨v9.Link,((Int.tmod (IntKind.wrap .i64 (y3 + 1)) 3) == 0),v9.V⟩ : Say)).set (y1.toNat) (⟨v10.Link,v10.Back,(⟨(IntKind.wrap .i64 ((IntKind.wrap .i64 (y3 + 1)) + 1)),v10.V.Co,v10.V.Hops,v10.V.Bridge,v10.V.Port⟩ : Vec)⟩ : Say)).set (y1.toNat) (⟨v11.Link,v11.Back,(⟨v11.V.Root,(IntKind.wrap .i64 ((IntKind.wrap .i64 ((IntKind.wrap .i64 (y3 + 1)) + 1)) + 1)),v11.V.Hops,v11.V.Bridge,v11.V.Port⟩ : Vec)⟩ : Say)).set (y1.toNat) (⟨v12.Link,v12.Back,(⟨v12.V.Root,v12.V.Co,(IntKind.wrap .i64 ((IntKind.wrap .i64 ((IntKind.wrap .i64 ((IntKind.wrap .i64 (y3 + 1)) + 1)) + 1)) + 1)),v12.V.Bridge,v12.V.Port⟩ : Vec)⟩ : Say)).set (y1.toNat) (⟨v13.Link,v13.Back,(⟨v13.V.Root,v13.V.Co,v13.V.Hops,(IntKind.wrap .i64 ((IntKind.wrap .i64 ((IntKind.wrap .i64 ((IntKind.wrap .i64 ((IntKind.wrap .i64 (y3 + 1)) + 1)) + 1)) + 1)) + 1)),v13.V.Port⟩ : Vec)⟩ : Say)).set (y1.toNat) (⟨v14.Link,v14.Back,(⟨v14.V.Root,v14.V.Co,v14.V.Hops,v14.V.Bridge,(IntKind.wrap .i64 ((IntKind.wrap .i64 ((IntKind.wrap .i64 ((IntKind.wrap .i64 ((IntKind.wrap .i64 ((IntKind.wrap .i64 (y3 + 1)) + 1)) + 1)) + 1)) + 1)) + 1))⟩ : Vec)⟩ : Say)) (IntKind.wrap .i64 ((IntKind.wrap .i64 ((IntKind.wrap .i64 ((IntKind.wrap .i64 ((IntKind.wrap .i64 ((IntKind.wrap .i64 ((IntKind.wrap .i64 (y3 + 1)) + 1)) + 1)) + 1)) + 1)) + 1)) + 1))))))))) else none)) else (some (Sum.inl (y2,y3))))
def JT (n : Nat) (x0 : (List Say)) (x1 : Int) : Option (Int × (List Say)) :=
  ((q9 n n 0 x0 x1).bind fun o => match o with | .inl (y4,y5) => (Jm n y4 y5) | .inr r => some r)
noncomputable abbrev Jd (k : Nat) := Rg Tryz.f126 k
theorem zJe (n : Nat) (x0 : (List Say)) (x1 : Int) (r : Int × (List Say)) (H : JT n x0 x1 = some r) : zD Tryz.prog 126 [.io false [.sl true 7 (x0.map Say.row)],.val false [.lit (.int .i64 x1)]] [.val false [.lit (.int .i64 r.1)]] [(0,[.sl true 7 (r.2.map Say.row)])] := by
 refine zD.of_body tOk Tryz.func126 rfl (c := (.seq (Jd 0) (.seq (.seq (Jd 1) (.block 0 (.loop (.seq (.seq (Jd 2) (.cond (.tmp 9) .skip (.exit 0))) (.seq (.block 1 (.seq (Jd 4) (.seq (Jd 5) (.seq (Jd 6) (.seq (Jd 7) (.seq (Jd 8) (.seq (Jd 9) (.seq (Jd 10) (.seq (Jd 11) (.seq (Jd 12) (.seq (Jd 13) (.seq (Jd 14) (.seq (Jd 15) (.seq (Jd 16) (Jd 17))))))))))))))) (Jd 3)))))) (.seq (Jd 18) .ret)))) kr (Nat.le_of_ble_eq_true kr) 1 (rs := [.tmp 4]) rfl [0] (by decide) [(false,[.lit (.int .i64 r.1)])] [[.sl true 7 (r.2.map Say.row)]] [] fun cx => ?_
 show Tr _ _ _ ⟨69,1,[sC 0 (cL 7 x0 Say.row),sI 1 x1],[]⟩ _
 unfold JT at H
 refine gA 1 3 0 ?_
 refine tS ?_
 refine gA 1 35 0 ?_
 obtain ⟨o6,eo6,Ho6⟩ := bs H
 clear H
 refine Tr.mid (ι := (List Say) × Int) (fun v => ⟨69,1,[sC 0 (cL 7 v.1 Say.row),sI 1 v.2],[]⟩) (fun v => Jm n v.1 v.2 = some r) ?_ ?_
 ·refine tB ?_
  refine Tr.loop (ι := Nat × (Int × (List Say) × Int)) (fun v => ⟨69,1,[sI 5 v.2.1,sC 0 (cL 7 v.2.2.1 Say.row),sI 1 v.2.2.2],[]⟩) (fun v => q9 n v.1 v.2.1 v.2.2.1 v.2.2.2 = some o6) (fun v => v.1) (n,(0,x0,x1)) eo6 (St.sub_of [5,0,1] [] kr) ?_
  rintro ⟨mo6,y1,y2,y3⟩ H
  have H : q9 n mo6 y1 y2 y3 = some o6 := H
  obtain _ | mo6 := mo6
  ·exact nN H
  rw [q9] at H
  refine tS ?_
  refine rA 2 ?_
  refine kO y2 Say.row ?_
  refine uA 1 547 0 ?_
  obtain ⟨h1,H⟩ | ⟨h1,H⟩ := bC H
  ·refine nA h1 ?_
   refine Tr.exit ?_
   refine And.intro (fun _ => ?_) (fun h => absurd rfl h)
   obtain rfl := si H
   have H := Ho6
   dsimp only at H
   exact jA (y2,y3) H [0,1] []
  refine tA h1 ?_
  refine tK ?_
  refine tS ?_
  refine tB ?_
  refine rA 3 ?_
  obtain ⟨v7,ev7,H⟩ := bs H
  refine oA Say.row ev7 ?_
  refine lA 1 ?_
  refine sS (tI 3) false [cI y3] 0 0 (y1.toNat) 7 0 7 Say.row (⟨y3,v7.Back,v7.V⟩ : Say) (zI ev7).2 ?_
  refine dA 35 0 ?_
  refine gA 3 35 0 ?_
  refine rA 3 ?_
  obtain ⟨hg8,H⟩ := gs H
  refine LAt.binC tOk (op := .rem) (t := 3) (ty := 3) (ty' := 3) (x := (.tmp 21)) (y := (.const (.int .i64 3))) (d := 22) (g := none) (.int .i64 (IntKind.wrap .i64 (y3 + 1))) (.int .i64 3) (.int .i64 (Int.tmod (IntKind.wrap .i64 (y3 + 1)) 3)) _ kr kr kr kr kr (φ := (IntKind.i64 = IntKind.i64 ∧ (3 : Int) ≠ 0)) kr (⟨rfl,of_decide_eq_true hg8⟩) rfl ?_
  refine lA 1 ?_
  obtain ⟨v9,ev9,H⟩ := bs H
  refine oA Say.row ev9 ?_
  refine lA 1 ?_
  refine sS (tI 4) false [cB ((Int.tmod (IntKind.wrap .i64 (y3 + 1)) 3) == 0)] 0 0 (y1.toNat) 7 1 7 Say.row (⟨v9.Link,((Int.tmod (IntKind.wrap .i64 (y3 + 1)) 3) == 0),v9.V⟩ : Say) (zI ev9).2 ?_
  refine dA 35 0 ?_
  refine gA 3 35 0 ?_
  refine rA 3 ?_
  obtain ⟨v10,ev10,H⟩ := bs H
  refine oA Say.row ev10 ?_
  refine lA 2 ?_
  refine sS (tI 3) false [cI (IntKind.wrap .i64 ((IntKind.wrap .i64 (y3 + 1)) + 1))] 0 0 (y1.toNat) 7 2 7 Say.row (⟨v10.Link,v10.Back,(⟨(IntKind.wrap .i64 ((IntKind.wrap .i64 (y3 + 1)) + 1)),v10.V.Co,v10.V.Hops,v10.V.Bridge,v10.V.Port⟩ : Vec)⟩ : Say) (zI ev10).2 ?_
  refine dA 35 0 ?_
  refine gA 3 35 0 ?_
  refine rA 3 ?_
  obtain ⟨v11,ev11,H⟩ := bs H
  refine oA Say.row ev11 ?_
  refine lA 2 ?_
  refine sS (tI 3) false [cI (IntKind.wrap .i64 ((IntKind.wrap .i64 ((IntKind.wrap .i64 (y3 + 1)) + 1)) + 1))] 0 0 (y1.toNat) 7 3 7 Say.row (⟨v11.Link,v11.Back,(⟨v11.V.Root,(IntKind.wrap .i64 ((IntKind.wrap .i64 ((IntKind.wrap .i64 (y3 + 1)) + 1)) + 1)),v11.V.Hops,v11.V.Bridge,v11.V.Port⟩ : Vec)⟩ : Say) (zI ev11).2 ?_
  refine dA 35 0 ?_
  refine gA 3 35 0 ?_
  refine rA 3 ?_
  obtain ⟨v12,ev12,H⟩ := bs H
  refine oA Say.row ev12 ?_
  refine lA 2 ?_
  refine sS (tI 3) false [cI (IntKind.wrap .i64 ((IntKind.wrap .i64 ((IntKind.wrap .i64 ((IntKind.wrap .i64 (y3 + 1)) + 1)) + 1)) + 1))] 0 0 (y1.toNat) 7 4 7 Say.row (⟨v12.Link,v12.Back,(⟨v12.V.Root,v12.V.Co,(IntKind.wrap .i64 ((IntKind.wrap .i64 ((IntKind.wrap .i64 ((IntKind.wrap .i64 (y3 + 1)) + 1)) + 1)) + 1)),v12.V.Bridge,v12.V.Port⟩ : Vec)⟩ : Say) (zI ev12).2 ?_
  refine dA 35 0 ?_
  refine gA 3 35 0 ?_
  refine rA 3 ?_
  obtain ⟨v13,ev13,H⟩ := bs H
  refine oA Say.row ev13 ?_
  refine lA 2 ?_
  refine sS (tI 3) false [cI (IntKind.wrap .i64 ((IntKind.wrap .i64 ((IntKind.wrap .i64 ((IntKind.wrap .i64 ((IntKind.wrap .i64 (y3 + 1)) + 1)) + 1)) + 1)) + 1))] 0 0 (y1.toNat) 7 5 7 Say.row (⟨v13.Link,v13.Back,(⟨v13.V.Root,v13.V.Co,v13.V.Hops,(IntKind.wrap .i64 ((IntKind.wrap .i64 ((IntKind.wrap .i64 ((IntKind.wrap .i64 ((IntKind.wrap .i64 (y3 + 1)) + 1)) + 1)) + 1)) + 1)),v13.V.Port⟩ : Vec)⟩ : Say) (zI ev13).2 ?_
  refine dA 35 0 ?_
  refine gA 3 35 0 ?_
  refine rA 3 ?_
  obtain ⟨v14,ev14,H⟩ := bs H
  refine oA Say.row ev14 ?_
  refine lA 2 ?_
  refine sS (tI 3) false [cI (IntKind.wrap .i64 ((IntKind.wrap .i64 ((IntKind.wrap .i64 ((IntKind.wrap .i64 ((IntKind.wrap .i64 ((IntKind.wrap .i64 (y3 + 1)) + 1)) + 1)) + 1)) + 1)) + 1))] 0 0 (y1.toNat) 7 6 7 Say.row (⟨v14.Link,v14.Back,(⟨v14.V.Root,v14.V.Co,v14.V.Hops,v14.V.Bridge,(IntKind.wrap .i64 ((IntKind.wrap .i64 ((IntKind.wrap .i64 ((IntKind.wrap .i64 ((IntKind.wrap .i64 ((IntKind.wrap .i64 (y3 + 1)) + 1)) + 1)) + 1)) + 1)) + 1))⟩ : Vec)⟩ : Say) (zI ev14).2 ?_
  refine dA 35 0 ?_
  refine eA 3 35 0 ?_
  refine eA 3 35 0 ?_
  exact jB mo6 ((IntKind.wrap .i64 (y1 + 1)),(((((((y2.set (y1.toNat) (⟨y3,v7.Back,v7.V⟩ : Say)).set (y1.toNat) (⟨v9.Link,((Int.tmod (IntKind.wrap .i64 (y3 + 1)) 3) == 0),v9.V⟩ : Say)).set (y1.toNat) (⟨v10.Link,v10.Back,(⟨(IntKind.wrap .i64 ((IntKind.wrap .i64 (y3 + 1)) + 1)),v10.V.Co,v10.V.Hops,v10.V.Bridge,v10.V.Port⟩ : Vec)⟩ : Say)).set (y1.toNat) (⟨v11.Link,v11.Back,(⟨v11.V.Root,(IntKind.wrap .i64 ((IntKind.wrap .i64 ((IntKind.wrap .i64 (y3 + 1)) + 1)) + 1)),v11.V.Hops,v11.V.Bridge,v11.V.Port⟩ : Vec)⟩ : Say)).set (y1.toNat) (⟨v12.Link,v12.Back,(⟨v12.V.Root,v12.V.Co,(IntKind.wrap .i64 ((IntKind.wrap .i64 ((IntKind.wrap .i64 ((IntKind.wrap .i64 (y3 + 1)) + 1)) + 1)) + 1)),v12.V.Bridge,v12.V.Port⟩ : Vec)⟩ : Say)).set (y1.toNat) (⟨v13.Link,v13.Back,(⟨v13.V.Root,v13.V.Co,v13.V.Hops,(IntKind.wrap .i64 ((IntKind.wrap .i64 ((IntKind.wrap .i64 ((IntKind.wrap .i64 ((IntKind.wrap .i64 (y3 + 1)) + 1)) + 1)) + 1)) + 1)),v13.V.Port⟩ : Vec)⟩ : Say)).set (y1.toNat) (⟨v14.Link,v14.Back,(⟨v14.V.Root,v14.V.Co,v14.V.Hops,v14.V.Bridge,(IntKind.wrap .i64 ((IntKind.wrap .i64 ((IntKind.wrap .i64 ((IntKind.wrap .i64 ((IntKind.wrap .i64 ((IntKind.wrap .i64 (y3 + 1)) + 1)) + 1)) + 1)) + 1)) + 1))⟩ : Vec)⟩ : Say)),(IntKind.wrap .i64 ((IntKind.wrap .i64 ((IntKind.wrap .i64 ((IntKind.wrap .i64 ((IntKind.wrap .i64 ((IntKind.wrap .i64 ((IntKind.wrap .i64 (y3 + 1)) + 1)) + 1)) + 1)) + 1)) + 1)) + 1))) H [5,0,1] []
 rintro ⟨y4,y5⟩ H
 have H : (Jm n y4 y5) = some r := H
 unfold Jm at H
 refine gA 2 17 0 ?_
 refine te ?_
 obtain rfl := si H
 exact Fin.ofY _ [(false,[cI y5])] [false] _ [[cL 7 y4 Say.row]] _ [] kr rfl rfl rfl kr kr kr kr rfl rfl rfl
def Ya (n : Nat) (x0 : Net) (x1 : Int) : Option (Int × Net) :=
  ((Qx n x0.Bs x1).bind fun r1 => ((Yp n x0.Ls r1.1).bind fun r2 => ((JT n x0.Said r2.1).bind fun r3 => (some (r3.1,(⟨r1.2,r2.2,r3.2⟩ : Net))))))
noncomputable abbrev G29 (k : Nat) := Rg Tryz.f29 k
theorem zFm (n : Nat) (x0 : Net) (x1 : Int) (r : Int × Net) (H : Ya n x0 x1 = some r) : zD Tryz.prog 29 [.io true (Net.row x0),.val false [.lit (.int .i64 x1)]] [.val false [.lit (.int .i64 r.1)]] [(0,(Net.row r.2))] := by
 refine zD.of_body tOk Tryz.func29 rfl (c := (.seq (G29 0) (.seq (G29 1) (.seq (G29 2) (.seq (G29 3) (.seq (G29 4) .ret)))))) kr (Nat.le_of_ble_eq_true kr) 1 (rs := [.tmp 4]) rfl [0] (by decide) [(false,[.lit (.int .i64 r.1)])] [(Net.row r.2)] [] fun cx => ?_
 show Tr _ _ _ ⟨18,1,[sV 0 (Net.row x0),sI 1 x1],[]⟩ _
 unfold Ya at H
 refine tR ?_
 refine LAt.boxK (T := lk tab) (t := 67) (ty := 0) (x := 0) (d := 2) (g := none) true (Net.row x0) kr kr kr kr kr kr ?_
 refine uA 1 7 4 ?_
 refine rA 3 ?_
 obtain ⟨r1,er1,H⟩ := bs H
 refine LAt.callL tOk [.lend,.rd] (f := 124) (av := #[.tmp 6,.tmp 7]) (ats := #[63,3]) (d := (some 8)) (ty := 3) (g := none) kr kr kr [] (zHA n x0.Bs x1 r1 er1) kr (.inl rfl) ?_
 refine uA 1 7 4 ?_
 refine rA 3 ?_
 obtain ⟨r2,er2,H⟩ := bs H
 refine LAt.callL tOk [.lend,.rd] (f := 125) (av := #[.tmp 10,.tmp 11]) (ats := #[64,3]) (d := (some 12)) (ty := 3) (g := none) kr kr kr [] (zIg n x0.Ls r1.1 r2 er2) kr (.inl rfl) ?_
 refine uA 1 7 4 ?_
 refine rA 3 ?_
 obtain ⟨r3,er3,H⟩ := bs H
 refine LAt.callL tOk [.lend,.rd] (f := 126) (av := #[.tmp 14,.tmp 15]) (ats := #[65,3]) (d := (some 16)) (ty := 3) (g := none) kr kr kr [] (zJe n x0.Said r2.1 r3 er3) kr (.inl rfl) ?_
 refine uA 1 3 4 ?_
 refine gA 2 17 4 ?_
 refine te ?_
 obtain rfl := si H
 exact Fin.ofY _ [(false,[cI r3.1])] [true] _ [[cL 11 r1.2 zA.row,cL 4 r2.2 Link.row,cL 7 r3.2 Say.row]] _ [] kr rfl rfl rfl kr kr kr kr rfl rfl rfl
def zAM (n : Nat) (y3 : Int) : Option (Int) :=
  (some y3)
def ZN (n : Nat) : Nat → (List Pt) → Int → Int → Option ((Int) ⊕ (Int))
  | 0,_,_,_ => none
  | mo4 + 1,x0,y1,y2 => (bif (decide (y1 < (x0.length : Int))) then ((idx x0 y1).bind fun v5 => (bif (decide ((3 : Int) ≠ 0)) then (bif (!(v5.Up == ((Int.tmod y2 3) == 0))) then (some (Sum.inr (-1))) else ((idx x0 y1).bind fun v7 => (bif (v7.Co != (IntKind.wrap .i64 (y2 + 1))) then (some (Sum.inr (-1))) else ((idx x0 y1).bind fun v8 => (bif (decide ((3 : Int) ≠ 0)) then (bif (!(v8.Has == ((Int.tmod (IntKind.wrap .i64 ((IntKind.wrap .i64 (y2 + 1)) + 1)) 3) == 0))) then (some (Sum.inr (-1))) else ((idx x0 y1).bind fun v10 => (bif (v10.Hd.Root != (IntKind.wrap .i64 ((IntKind.wrap .i64 ((IntKind.wrap .i64 (y2 + 1)) + 1)) + 1))) then (some (Sum.inr (-1))) else ((idx x0 y1).bind fun v11 => (bif (v11.Hd.Co != (IntKind.wrap .i64 ((IntKind.wrap .i64 ((IntKind.wrap .i64 ((IntKind.wrap .i64 (y2 + 1)) + 1)) + 1)) + 1))) then (some (Sum.inr (-1))) else ((idx x0 y1).bind fun v12 => (bif (v12.Hd.Hops != (IntKind.wrap .i64 ((IntKind.wrap .i64 ((IntKind.wrap .i64 ((IntKind.wrap .i64 ((IntKind.wrap .i64 (y2 + 1)) + 1)) + 1)) + 1)) + 1))) then (some (Sum.inr (-1))) else ((idx x0 y1).bind fun v13 => (bif (v13.Hd.Bridge != (IntKind.wrap .i64 ((IntKind.wrap .i64 ((IntKind.wrap .i64 ((IntKind.wrap .i64 ((IntKind.wrap .i64 ((IntKind.wrap .i64 (y2 + 1)) + 1)) + 1)) + 1)) + 1)) + 1))) then (some (Sum.inr (-1))) else ((idx x0 y1).bind fun v14 => (bif (v14.Hd.Port != (IntKind.wrap .i64 ((IntKind.wrap .i64 ((IntKind.wrap .i64 ((IntKind.wrap .i64 ((IntKind.wrap .i64 ((IntKind.wrap .i64 ((IntKind.wrap .i64 (y2 + 1)) + 1)) + 1)) + 1)) + 1)) + 1)) + 1))) then (some (Sum.inr (-1))) else (ZN n mo4 x0 (IntKind.wrap .i64 (y1 + 1)) (IntKind.wrap .i64 ((IntKind.wrap .i64 ((IntKind.wrap .i64 ((IntKind.wrap .i64 ((IntKind.wrap .i64 ((IntKind.wrap .i64 ((IntKind.wrap .i64 ((IntKind.wrap .i64 (y2 + 1)) + 1)) + 1)) + 1)) + 1)) + 1)) + 1)) + 1)))))))))))))) else none))))) else none)) else (some (Sum.inl y2)))
def J0 (n : Nat) (x0 : (List Pt)) (x1 : Int) : Option (Int) :=
  ((ZN n n x0 0 x1).bind fun o => match o with | .inl y3 => (zAM n y3) | .inr r => some r)
theorem zKH (n : Nat) (x0 : (List Pt)) (x1 : Int) (r : Int) (H : J0 n x0 x1 = some r) : zD Tryz.prog 99 [.val false [.sl false 8 (CV.frzEs (x0.map Pt.row))],.val false [.lit (.int .i64 x1)]] [.val false [.lit (.int .i64 r)]] [] := by
 refine cA Tryz.func99 (.seq (Rg Tryz.f99 0) (.seq (.seq (Rg Tryz.f99 1) (.block 0 (.loop (.seq (.seq (Rg Tryz.f99 2) (.cond (.tmp 9) .skip (.exit 0))) (.seq (.block 1 (.seq (.seq (Rg Tryz.f99 4) (.cond (.tmp 20) (.seq (Rg Tryz.f99 5) .ret) .skip)) (.seq (Rg Tryz.f99 6) (.seq (.seq (Rg Tryz.f99 7) (.cond (.tmp 29) (.seq (Rg Tryz.f99 8) .ret) .skip)) (.seq (Rg Tryz.f99 9) (.seq (.seq (Rg Tryz.f99 10) (.cond (.tmp 40) (.seq (Rg Tryz.f99 11) .ret) .skip)) (.seq (Rg Tryz.f99 12) (.seq (.seq (Rg Tryz.f99 13) (.cond (.tmp 50) (.seq (Rg Tryz.f99 14) .ret) .skip)) (.seq (Rg Tryz.f99 15) (.seq (.seq (Rg Tryz.f99 16) (.cond (.tmp 60) (.seq (Rg Tryz.f99 17) .ret) .skip)) (.seq (Rg Tryz.f99 18) (.seq (.seq (Rg Tryz.f99 19) (.cond (.tmp 70) (.seq (Rg Tryz.f99 20) .ret) .skip)) (.seq (Rg Tryz.f99 21) (.seq (.seq (Rg Tryz.f99 22) (.cond (.tmp 80) (.seq (Rg Tryz.f99 23) .ret) .skip)) (.seq (Rg Tryz.f99 24) (.seq (.seq (Rg Tryz.f99 25) (.cond (.tmp 90) (.seq (Rg Tryz.f99 26) .ret) .skip)) (Rg Tryz.f99 27))))))))))))))))) (Rg Tryz.f99 3)))))) (.seq (Rg Tryz.f99 28) .ret))) [.tmp 4] fun cx => ?_
 unfold J0 at H
 refine gA 1 3 0 ?_
 refine tS ?_
 refine gA 1 35 0 ?_
 obtain ⟨o4,eo4,Ho4⟩ := bs H
 clear H
 refine Tr.mid (ι := Int) (fun v => ⟨94,0,[sI 1 v],[]⟩) (fun v => zAM n v = some r) ?_ ?_
 ·refine tB ?_
  refine Tr.loop (ι := Nat × (Int × Int)) (fun v => ⟨94,0,[sI 5 v.2.1,sC 0 (cF 8 x0 Pt.row),sI 1 v.2.2],[]⟩) (fun v => ZN n v.1 x0 v.2.1 v.2.2 = some o4) (fun v => v.1) (n,(0,x1)) eo4 (St.sub_of [5,0,1] [] kr) ?_
  rintro ⟨mo4,y1,y2⟩ H
  have H : ZN n mo4 x0 y1 y2 = some o4 := H
  obtain _ | mo4 := mo4
  ·exact nN H
  rw [ZN] at H
  refine tS ?_
  refine rA 2 ?_
  refine kF x0 Pt.row ?_
  refine uA 1 547 0 ?_
  obtain ⟨h1,H⟩ | ⟨h1,H⟩ := bC H
  ·refine nA h1 ?_
   refine Tr.exit ?_
   refine And.intro (fun _ => ?_) (fun h => absurd rfl h)
   obtain rfl := si H
   have H := Ho4
   dsimp only at H
   exact jA y2 H [1] []
  refine tA h1 ?_
  refine tK ?_
  refine tS ?_
  refine tB ?_
  refine tS ?_
  refine rA 2 ?_
  obtain ⟨v5,ev5,H⟩ := bs H
  refine iA Pt.row ev5 ?_
  refine lA 3 ?_
  obtain ⟨hg6,H⟩ := gs H
  refine LAt.binC tOk (op := .rem) (t := 3) (ty := 3) (ty' := 3) (x := (.tmp 17)) (y := (.const (.int .i64 3))) (d := 18) (g := none) (.int .i64 y2) (.int .i64 3) (.int .i64 (Int.tmod y2 3)) _ kr kr kr kr kr (φ := (IntKind.i64 = IntKind.i64 ∧ (3 : Int) ≠ 0)) kr (⟨rfl,of_decide_eq_true hg6⟩) rfl ?_
  refine uA 2 1048611 0 ?_
  obtain ⟨h2,H⟩ | ⟨h2,H⟩ := bC H
  ·refine nA h2 ?_
   refine tK ?_
   refine gA 3 35 0 ?_
   refine tS ?_
   refine rA 2 ?_
   obtain ⟨v7,ev7,H⟩ := bs H
   refine iA Pt.row ev7 ?_
   refine uA 4 536870947 0 ?_
   obtain ⟨h3,H⟩ | ⟨h3,H⟩ := bC H
   ·refine nA h3 ?_
    refine tK ?_
    refine gA 3 35 0 ?_
    refine tS ?_
    refine rA 2 ?_
    obtain ⟨v8,ev8,H⟩ := bs H
    refine iA Pt.row ev8 ?_
    refine lA 3 ?_
    obtain ⟨hg9,H⟩ := gs H
    refine LAt.binC tOk (op := .rem) (t := 3) (ty := 3) (ty' := 3) (x := (.tmp 37)) (y := (.const (.int .i64 3))) (d := 38) (g := none) (.int .i64 (IntKind.wrap .i64 ((IntKind.wrap .i64 (y2 + 1)) + 1))) (.int .i64 3) (.int .i64 (Int.tmod (IntKind.wrap .i64 ((IntKind.wrap .i64 (y2 + 1)) + 1)) 3)) _ kr kr kr kr kr (φ := (IntKind.i64 = IntKind.i64 ∧ (3 : Int) ≠ 0)) kr (⟨rfl,of_decide_eq_true hg9⟩) rfl ?_
    refine uA 2 1099511627811 0 ?_
    refine sT ⟨94,0,[sB 40 (!(v8.Has == ((Int.tmod (IntKind.wrap .i64 ((IntKind.wrap .i64 (y2 + 1)) + 1)) 3) == 0))),sI 1 (IntKind.wrap .i64 ((IntKind.wrap .i64 (y2 + 1)) + 1)),sI 5 y1,sC 0 (cF 8 x0 Pt.row)],[]⟩ ?_
    cases h4 : (!(v8.Has == ((Int.tmod (IntKind.wrap .i64 ((IntKind.wrap .i64 (y2 + 1)) + 1)) 3) == 0)))
    ·have H := zG h4 H
     refine nB_ ?_
     refine tK ?_
     refine gA 3 35 0 ?_
     refine tS ?_
     refine rA 2 ?_
     obtain ⟨v10,ev10,H⟩ := bs H
     refine iA Pt.row ev10 ?_
     refine uA 5 0x4000000000023 0 ?_
     obtain ⟨h5,H⟩ | ⟨h5,H⟩ := bC H
     ·refine nA h5 ?_
      refine tK ?_
      refine gA 3 35 0 ?_
      refine tS ?_
      refine rA 2 ?_
      obtain ⟨v11,ev11,H⟩ := bs H
      refine iA Pt.row ev11 ?_
      refine uA 5 0x1000000000000023 0 ?_
      obtain ⟨h6,H⟩ | ⟨h6,H⟩ := bC H
      ·refine nA h6 ?_
       refine tK ?_
       refine gA 3 35 0 ?_
       refine tS ?_
       refine rA 2 ?_
       obtain ⟨v12,ev12,H⟩ := bs H
       refine iA Pt.row ev12 ?_
       refine uA 5 0x400000000000000023 0 ?_
       obtain ⟨h7,H⟩ | ⟨h7,H⟩ := bC H
       ·refine nA h7 ?_
        refine tK ?_
        refine gA 3 35 0 ?_
        refine tS ?_
        refine rA 2 ?_
        obtain ⟨v13,ev13,H⟩ := bs H
        refine iA Pt.row ev13 ?_
        refine uA 5 0x100000000000000000023 0 ?_
        refine sT ⟨94,0,[sB 80 (v13.Hd.Bridge != (IntKind.wrap .i64 ((IntKind.wrap .i64 ((IntKind.wrap .i64 ((IntKind.wrap .i64 ((IntKind.wrap .i64 ((IntKind.wrap .i64 (y2 + 1)) + 1)) + 1)) + 1)) + 1)) + 1))),sI 1 (IntKind.wrap .i64 ((IntKind.wrap .i64 ((IntKind.wrap .i64 ((IntKind.wrap .i64 ((IntKind.wrap .i64 ((IntKind.wrap .i64 (y2 + 1)) + 1)) + 1)) + 1)) + 1)) + 1)),sI 5 y1,sC 0 (cF 8 x0 Pt.row)],[]⟩ ?_
        cases h8 : (v13.Hd.Bridge != (IntKind.wrap .i64 ((IntKind.wrap .i64 ((IntKind.wrap .i64 ((IntKind.wrap .i64 ((IntKind.wrap .i64 ((IntKind.wrap .i64 (y2 + 1)) + 1)) + 1)) + 1)) + 1)) + 1)))
        ·have H := zG h8 H
         refine nB_ ?_
         refine tK ?_
         refine gA 3 35 0 ?_
         refine tS ?_
         refine rA 2 ?_
         obtain ⟨v14,ev14,H⟩ := bs H
         refine iA Pt.row ev14 ?_
         refine uA 5 0x40000000000000000000023 0 ?_
         obtain ⟨h9,H⟩ | ⟨h9,H⟩ := bC H
         ·refine nA h9 ?_
          refine tK ?_
          refine eA 3 35 0 ?_
          refine eA 3 35 0 ?_
          exact jB mo4 ((IntKind.wrap .i64 (y1 + 1)),(IntKind.wrap .i64 ((IntKind.wrap .i64 ((IntKind.wrap .i64 ((IntKind.wrap .i64 ((IntKind.wrap .i64 ((IntKind.wrap .i64 ((IntKind.wrap .i64 ((IntKind.wrap .i64 (y2 + 1)) + 1)) + 1)) + 1)) + 1)) + 1)) + 1)) + 1))) H [5,0,1] []
         refine tA h9 ?_
         refine gA 1 16 0 ?_
         refine te ?_
         obtain rfl := si H
         have H := Ho4
         dsimp only at H
         obtain rfl := si H
         exact fP [(false,[cI (-1)])]
        have H := zH h8 H
        refine tB_ ?_
        refine gA 1 16 0 ?_
        refine te ?_
        obtain rfl := si H
        have H := Ho4
        dsimp only at H
        obtain rfl := si H
        exact fP [(false,[cI (-1)])]
       refine tA h7 ?_
       refine gA 1 16 0 ?_
       refine te ?_
       obtain rfl := si H
       have H := Ho4
       dsimp only at H
       obtain rfl := si H
       exact fP [(false,[cI (-1)])]
      refine tA h6 ?_
      refine gA 1 16 0 ?_
      refine te ?_
      obtain rfl := si H
      have H := Ho4
      dsimp only at H
      obtain rfl := si H
      exact fP [(false,[cI (-1)])]
     refine tA h5 ?_
     refine gA 1 16 0 ?_
     refine te ?_
     obtain rfl := si H
     have H := Ho4
     dsimp only at H
     obtain rfl := si H
     exact fP [(false,[cI (-1)])]
    have H := zH h4 H
    refine tB_ ?_
    refine gA 1 16 0 ?_
    refine te ?_
    obtain rfl := si H
    have H := Ho4
    dsimp only at H
    obtain rfl := si H
    exact fP [(false,[cI (-1)])]
   refine tA h3 ?_
   refine gA 1 16 0 ?_
   refine te ?_
   obtain rfl := si H
   have H := Ho4
   dsimp only at H
   obtain rfl := si H
   exact fP [(false,[cI (-1)])]
  refine tA h2 ?_
  refine gA 1 16 0 ?_
  refine te ?_
  obtain rfl := si H
  have H := Ho4
  dsimp only at H
  obtain rfl := si H
  exact fP [(false,[cI (-1)])]
 rintro y3 H
 have H : (zAM n y3) = some r := H
 unfold zAM at H
 refine gA 2 16 0 ?_
 exact te (by obtain rfl := si H; exact fP [(false,[cI y3])])
def Y5 (n : Nat) (y3 : Int) : Option (Int) :=
  (some y3)
def qr (n : Nat) : Nat → (List zB) → Int → Int → Option ((Int) ⊕ (Int))
  | 0,_,_,_ => none
  | mo4 + 1,x0,y1,y2 => (bif (decide (y1 < (x0.length : Int))) then ((idx x0 y1).bind fun v5 => (bif (v5.Tag != y2) then (some (Sum.inr (-1))) else ((idx x0 y1).bind fun v6 => (bif (v6.Mac != (IntKind.wrap .i64 (y2 + 1))) then (some (Sum.inr (-1))) else ((idx x0 y1).bind fun v7 => (bif (v7.Port != (IntKind.wrap .i64 ((IntKind.wrap .i64 (y2 + 1)) + 1))) then (some (Sum.inr (-1))) else ((idx x0 y1).bind fun v8 => (bif (v8.Age != (IntKind.wrap .i64 ((IntKind.wrap .i64 ((IntKind.wrap .i64 (y2 + 1)) + 1)) + 1))) then (some (Sum.inr (-1))) else ((idx x0 y1).bind fun v9 => (bif (decide ((3 : Int) ≠ 0)) then (bif (!(v9.Sc == ((Int.tmod (IntKind.wrap .i64 ((IntKind.wrap .i64 ((IntKind.wrap .i64 ((IntKind.wrap .i64 (y2 + 1)) + 1)) + 1)) + 1)) 3) == 0))) then (some (Sum.inr (-1))) else (qr n mo4 x0 (IntKind.wrap .i64 (y1 + 1)) (IntKind.wrap .i64 ((IntKind.wrap .i64 ((IntKind.wrap .i64 ((IntKind.wrap .i64 ((IntKind.wrap .i64 (y2 + 1)) + 1)) + 1)) + 1)) + 1)))) else none)))))))))) else (some (Sum.inl y2)))
def Yl (n : Nat) (x0 : (List zB)) (x1 : Int) : Option (Int) :=
  ((qr n n x0 0 x1).bind fun o => match o with | .inl y3 => (Y5 n y3) | .inr r => some r)
theorem zIc (n : Nat) (x0 : (List zB)) (x1 : Int) (r : Int) (H : Yl n x0 x1 = some r) : zD Tryz.prog 100 [.val false [.sl false 5 (CV.frzEs (x0.map zB.row))],.val false [.lit (.int .i64 x1)]] [.val false [.lit (.int .i64 r)]] [] := by
 refine cA Tryz.func100 (.seq (Rg Tryz.f100 0) (.seq (.seq (Rg Tryz.f100 1) (.block 0 (.loop (.seq (.seq (Rg Tryz.f100 2) (.cond (.tmp 9) .skip (.exit 0))) (.seq (.block 1 (.seq (.seq (Rg Tryz.f100 4) (.cond (.tmp 18) (.seq (Rg Tryz.f100 5) .ret) .skip)) (.seq (Rg Tryz.f100 6) (.seq (.seq (Rg Tryz.f100 7) (.cond (.tmp 27) (.seq (Rg Tryz.f100 8) .ret) .skip)) (.seq (Rg Tryz.f100 9) (.seq (.seq (Rg Tryz.f100 10) (.cond (.tmp 36) (.seq (Rg Tryz.f100 11) .ret) .skip)) (.seq (Rg Tryz.f100 12) (.seq (.seq (Rg Tryz.f100 13) (.cond (.tmp 45) (.seq (Rg Tryz.f100 14) .ret) .skip)) (.seq (Rg Tryz.f100 15) (.seq (.seq (Rg Tryz.f100 16) (.cond (.tmp 56) (.seq (Rg Tryz.f100 17) .ret) .skip)) (Rg Tryz.f100 18))))))))))) (Rg Tryz.f100 3)))))) (.seq (Rg Tryz.f100 19) .ret))) [.tmp 4] fun cx => ?_
 unfold Yl at H
 refine gA 1 3 0 ?_
 refine tS ?_
 refine gA 1 35 0 ?_
 obtain ⟨o4,eo4,Ho4⟩ := bs H
 clear H
 refine Tr.mid (ι := Int) (fun v => ⟨60,0,[sI 1 v],[]⟩) (fun v => Y5 n v = some r) ?_ ?_
 ·refine tB ?_
  refine Tr.loop (ι := Nat × (Int × Int)) (fun v => ⟨60,0,[sI 5 v.2.1,sC 0 (cF 5 x0 zB.row),sI 1 v.2.2],[]⟩) (fun v => qr n v.1 x0 v.2.1 v.2.2 = some o4) (fun v => v.1) (n,(0,x1)) eo4 (St.sub_of [5,0,1] [] kr) ?_
  rintro ⟨mo4,y1,y2⟩ H
  have H : qr n mo4 x0 y1 y2 = some o4 := H
  obtain _ | mo4 := mo4
  ·exact nN H
  rw [qr] at H
  refine tS ?_
  refine rA 2 ?_
  refine kF x0 zB.row ?_
  refine uA 1 547 0 ?_
  obtain ⟨h1,H⟩ | ⟨h1,H⟩ := bC H
  ·refine nA h1 ?_
   refine Tr.exit ?_
   refine And.intro (fun _ => ?_) (fun h => absurd rfl h)
   obtain rfl := si H
   have H := Ho4
   dsimp only at H
   exact jA y2 H [1] []
  refine tA h1 ?_
  refine tK ?_
  refine tS ?_
  refine tB ?_
  refine tS ?_
  refine rA 2 ?_
  obtain ⟨v5,ev5,H⟩ := bs H
  refine iA zB.row ev5 ?_
  refine uA 4 262179 0 ?_
  obtain ⟨h2,H⟩ | ⟨h2,H⟩ := bC H
  ·refine nA h2 ?_
   refine tK ?_
   refine gA 3 35 0 ?_
   refine tS ?_
   refine rA 2 ?_
   obtain ⟨v6,ev6,H⟩ := bs H
   refine iA zB.row ev6 ?_
   refine uA 4 134217763 0 ?_
   obtain ⟨h3,H⟩ | ⟨h3,H⟩ := bC H
   ·refine nA h3 ?_
    refine tK ?_
    refine gA 3 35 0 ?_
    refine tS ?_
    refine rA 2 ?_
    obtain ⟨v7,ev7,H⟩ := bs H
    refine iA zB.row ev7 ?_
    refine uA 4 68719476771 0 ?_
    obtain ⟨h4,H⟩ | ⟨h4,H⟩ := bC H
    ·refine nA h4 ?_
     refine tK ?_
     refine gA 3 35 0 ?_
     refine tS ?_
     refine rA 2 ?_
     obtain ⟨v8,ev8,H⟩ := bs H
     refine iA zB.row ev8 ?_
     refine uA 4 35184372088867 0 ?_
     refine sT ⟨60,0,[sB 45 (v8.Age != (IntKind.wrap .i64 ((IntKind.wrap .i64 ((IntKind.wrap .i64 (y2 + 1)) + 1)) + 1))),sI 1 (IntKind.wrap .i64 ((IntKind.wrap .i64 ((IntKind.wrap .i64 (y2 + 1)) + 1)) + 1)),sI 5 y1,sC 0 (cF 5 x0 zB.row)],[]⟩ ?_
     cases h5 : (v8.Age != (IntKind.wrap .i64 ((IntKind.wrap .i64 ((IntKind.wrap .i64 (y2 + 1)) + 1)) + 1)))
     ·have H := zG h5 H
      refine nB_ ?_
      refine tK ?_
      refine gA 3 35 0 ?_
      refine tS ?_
      refine rA 2 ?_
      obtain ⟨v9,ev9,H⟩ := bs H
      refine iA zB.row ev9 ?_
      refine lA 3 ?_
      obtain ⟨hg10,H⟩ := gs H
      refine LAt.binC tOk (op := .rem) (t := 3) (ty := 3) (ty' := 3) (x := (.tmp 53)) (y := (.const (.int .i64 3))) (d := 54) (g := none) (.int .i64 (IntKind.wrap .i64 ((IntKind.wrap .i64 ((IntKind.wrap .i64 ((IntKind.wrap .i64 (y2 + 1)) + 1)) + 1)) + 1))) (.int .i64 3) (.int .i64 (Int.tmod (IntKind.wrap .i64 ((IntKind.wrap .i64 ((IntKind.wrap .i64 ((IntKind.wrap .i64 (y2 + 1)) + 1)) + 1)) + 1)) 3)) _ kr kr kr kr kr (φ := (IntKind.i64 = IntKind.i64 ∧ (3 : Int) ≠ 0)) kr (⟨rfl,of_decide_eq_true hg10⟩) rfl ?_
      refine uA 2 72057594037927971 0 ?_
      obtain ⟨h6,H⟩ | ⟨h6,H⟩ := bC H
      ·refine nA h6 ?_
       refine tK ?_
       refine eA 3 35 0 ?_
       refine eA 3 35 0 ?_
       exact jB mo4 ((IntKind.wrap .i64 (y1 + 1)),(IntKind.wrap .i64 ((IntKind.wrap .i64 ((IntKind.wrap .i64 ((IntKind.wrap .i64 ((IntKind.wrap .i64 (y2 + 1)) + 1)) + 1)) + 1)) + 1))) H [5,0,1] []
      refine tA h6 ?_
      refine gA 1 16 0 ?_
      refine te ?_
      obtain rfl := si H
      have H := Ho4
      dsimp only at H
      obtain rfl := si H
      exact fP [(false,[cI (-1)])]
     have H := zH h5 H
     refine tB_ ?_
     refine gA 1 16 0 ?_
     refine te ?_
     obtain rfl := si H
     have H := Ho4
     dsimp only at H
     obtain rfl := si H
     exact fP [(false,[cI (-1)])]
    refine tA h4 ?_
    refine gA 1 16 0 ?_
    refine te ?_
    obtain rfl := si H
    have H := Ho4
    dsimp only at H
    obtain rfl := si H
    exact fP [(false,[cI (-1)])]
   refine tA h3 ?_
   refine gA 1 16 0 ?_
   refine te ?_
   obtain rfl := si H
   have H := Ho4
   dsimp only at H
   obtain rfl := si H
   exact fP [(false,[cI (-1)])]
  refine tA h2 ?_
  refine gA 1 16 0 ?_
  refine te ?_
  obtain rfl := si H
  have H := Ho4
  dsimp only at H
  obtain rfl := si H
  exact fP [(false,[cI (-1)])]
 rintro y3 H
 have H : (Y5 n y3) = some r := H
 unfold Y5 at H
 refine gA 2 16 0 ?_
 exact te (by obtain rfl := si H; exact fP [(false,[cI y3])])
def Y7 (n : Nat) (y3 : Int) : Option (Int) :=
  (some y3)
def qu (n : Nat) : Nat → (List zC) → Int → Int → Option ((Int) ⊕ (Int))
  | 0,_,_,_ => none
  | mo4 + 1,x0,y1,y2 => (bif (decide (y1 < (x0.length : Int))) then ((idx x0 y1).bind fun v5 => (bif (v5.Id != y2) then (some (Sum.inr (-1))) else ((idx x0 y1).bind fun v6 => (bif (v6.Members != (IntKind.wrap .i64 (y2 + 1))) then (some (Sum.inr (-1))) else ((idx x0 y1).bind fun v7 => (bif (v7.Bare != (IntKind.wrap .i64 ((IntKind.wrap .i64 (y2 + 1)) + 1))) then (some (Sum.inr (-1))) else (qu n mo4 x0 (IntKind.wrap .i64 (y1 + 1)) (IntKind.wrap .i64 ((IntKind.wrap .i64 ((IntKind.wrap .i64 (y2 + 1)) + 1)) + 1))))))))) else (some (Sum.inl y2)))
def Yn (n : Nat) (x0 : (List zC)) (x1 : Int) : Option (Int) :=
  ((qu n n x0 0 x1).bind fun o => match o with | .inl y3 => (Y7 n y3) | .inr r => some r)
theorem zIe (n : Nat) (x0 : (List zC)) (x1 : Int) (r : Int) (H : Yn n x0 x1 = some r) : zD Tryz.prog 192 [.val false [.sl false 3 (CV.frzEs (x0.map zC.row))],.val false [.lit (.int .i64 x1)]] [.val false [.lit (.int .i64 r)]] [] := by
 refine cA Tryz.func192 (.seq (Rg Tryz.f192 0) (.seq (.seq (Rg Tryz.f192 1) (.block 0 (.loop (.seq (.seq (Rg Tryz.f192 2) (.cond (.tmp 9) .skip (.exit 0))) (.seq (.block 1 (.seq (.seq (Rg Tryz.f192 4) (.cond (.tmp 18) (.seq (Rg Tryz.f192 5) .ret) .skip)) (.seq (Rg Tryz.f192 6) (.seq (.seq (Rg Tryz.f192 7) (.cond (.tmp 27) (.seq (Rg Tryz.f192 8) .ret) .skip)) (.seq (Rg Tryz.f192 9) (.seq (.seq (Rg Tryz.f192 10) (.cond (.tmp 36) (.seq (Rg Tryz.f192 11) .ret) .skip)) (Rg Tryz.f192 12))))))) (Rg Tryz.f192 3)))))) (.seq (Rg Tryz.f192 13) .ret))) [.tmp 4] fun cx => ?_
 unfold Yn at H
 refine gA 1 3 0 ?_
 refine tS ?_
 refine gA 1 35 0 ?_
 obtain ⟨o4,eo4,Ho4⟩ := bs H
 clear H
 refine Tr.mid (ι := Int) (fun v => ⟨40,0,[sI 1 v],[]⟩) (fun v => Y7 n v = some r) ?_ ?_
 ·refine tB ?_
  refine Tr.loop (ι := Nat × (Int × Int)) (fun v => ⟨40,0,[sI 5 v.2.1,sC 0 (cF 3 x0 zC.row),sI 1 v.2.2],[]⟩) (fun v => qu n v.1 x0 v.2.1 v.2.2 = some o4) (fun v => v.1) (n,(0,x1)) eo4 (St.sub_of [5,0,1] [] kr) ?_
  rintro ⟨mo4,y1,y2⟩ H
  have H : qu n mo4 x0 y1 y2 = some o4 := H
  obtain _ | mo4 := mo4
  ·exact nN H
  rw [qu] at H
  refine tS ?_
  refine rA 2 ?_
  refine kF x0 zC.row ?_
  refine uA 1 547 0 ?_
  obtain ⟨h1,H⟩ | ⟨h1,H⟩ := bC H
  ·refine nA h1 ?_
   refine Tr.exit ?_
   refine And.intro (fun _ => ?_) (fun h => absurd rfl h)
   obtain rfl := si H
   have H := Ho4
   dsimp only at H
   exact jA y2 H [1] []
  refine tA h1 ?_
  refine tK ?_
  refine tS ?_
  refine tB ?_
  refine tS ?_
  refine rA 2 ?_
  obtain ⟨v5,ev5,H⟩ := bs H
  refine iA zC.row ev5 ?_
  refine uA 4 262179 0 ?_
  obtain ⟨h2,H⟩ | ⟨h2,H⟩ := bC H
  ·refine nA h2 ?_
   refine tK ?_
   refine gA 3 35 0 ?_
   refine tS ?_
   refine rA 2 ?_
   obtain ⟨v6,ev6,H⟩ := bs H
   refine iA zC.row ev6 ?_
   refine uA 4 134217763 0 ?_
   obtain ⟨h3,H⟩ | ⟨h3,H⟩ := bC H
   ·refine nA h3 ?_
    refine tK ?_
    refine gA 3 35 0 ?_
    refine tS ?_
    refine rA 2 ?_
    obtain ⟨v7,ev7,H⟩ := bs H
    refine iA zC.row ev7 ?_
    refine uA 4 68719476771 0 ?_
    obtain ⟨h4,H⟩ | ⟨h4,H⟩ := bC H
    ·refine nA h4 ?_
     refine tK ?_
     refine eA 3 35 0 ?_
     refine eA 3 35 0 ?_
     exact jB mo4 ((IntKind.wrap .i64 (y1 + 1)),(IntKind.wrap .i64 ((IntKind.wrap .i64 ((IntKind.wrap .i64 (y2 + 1)) + 1)) + 1))) H [5,0,1] []
    refine tA h4 ?_
    refine gA 1 16 0 ?_
    refine te ?_
    obtain rfl := si H
    have H := Ho4
    dsimp only at H
    obtain rfl := si H
    exact fP [(false,[cI (-1)])]
   refine tA h3 ?_
   refine gA 1 16 0 ?_
   refine te ?_
   obtain rfl := si H
   have H := Ho4
   dsimp only at H
   obtain rfl := si H
   exact fP [(false,[cI (-1)])]
  refine tA h2 ?_
  refine gA 1 16 0 ?_
  refine te ?_
  obtain rfl := si H
  have H := Ho4
  dsimp only at H
  obtain rfl := si H
  exact fP [(false,[cI (-1)])]
 rintro y3 H
 have H : (Y7 n y3) = some r := H
 unfold Y7 at H
 refine gA 2 16 0 ?_
 exact te (by obtain rfl := si H; exact fP [(false,[cI y3])])
def Jj (n : Nat) (y3 : Int) : Option (Int) :=
  (some y3)
def q6 (n : Nat) : Nat → (List Int) → Int → Int → Option ((Int) ⊕ (Int))
  | 0,_,_,_ => none
  | mo4 + 1,x0,y1,y2 => (bif (decide (y1 < (x0.length : Int))) then ((idx x0 y1).bind fun v5 => (bif (v5 != y2) then (some (Sum.inr (-1))) else (q6 n mo4 x0 (IntKind.wrap .i64 (y1 + 1)) (IntKind.wrap .i64 (y2 + 1))))) else (some (Sum.inl y2)))
def JQ (n : Nat) (x0 : (List Int)) (x1 : Int) : Option (Int) :=
  ((q6 n n x0 0 x1).bind fun o => match o with | .inl y3 => (Jj n y3) | .inr r => some r)
theorem zJb (n : Nat) (x0 : (List Int)) (x1 : Int) (r : Int) (H : JQ n x0 x1 = some r) : zD Tryz.prog 193 [.val false [.sl false 1 (CV.frzEs (x0.map intRow))],.val false [.lit (.int .i64 x1)]] [.val false [.lit (.int .i64 r)]] [] := by
 refine cA Tryz.func193 (.seq (Rg Tryz.f193 0) (.seq (.seq (Rg Tryz.f193 1) (.block 0 (.loop (.seq (.seq (Rg Tryz.f193 2) (.cond (.tmp 9) .skip (.exit 0))) (.seq (.block 1 (.seq (.seq (Rg Tryz.f193 4) (.cond (.tmp 17) (.seq (Rg Tryz.f193 5) .ret) .skip)) (Rg Tryz.f193 6))) (Rg Tryz.f193 3)))))) (.seq (Rg Tryz.f193 7) .ret))) [.tmp 4] fun cx => ?_
 unfold JQ at H
 refine gA 1 3 0 ?_
 refine tS ?_
 refine gA 1 35 0 ?_
 obtain ⟨o4,eo4,Ho4⟩ := bs H
 clear H
 refine Tr.mid (ι := Int) (fun v => ⟨21,0,[sI 1 v],[]⟩) (fun v => Jj n v = some r) ?_ ?_
 ·refine tB ?_
  refine Tr.loop (ι := Nat × (Int × Int)) (fun v => ⟨21,0,[sI 5 v.2.1,sC 0 (cF 1 x0 intRow),sI 1 v.2.2],[]⟩) (fun v => q6 n v.1 x0 v.2.1 v.2.2 = some o4) (fun v => v.1) (n,(0,x1)) eo4 (St.sub_of [5,0,1] [] kr) ?_
  rintro ⟨mo4,y1,y2⟩ H
  have H : q6 n mo4 x0 y1 y2 = some o4 := H
  obtain _ | mo4 := mo4
  ·exact nN H
  rw [q6] at H
  refine tS ?_
  refine rA 2 ?_
  refine kF x0 intRow ?_
  refine uA 1 547 0 ?_
  obtain ⟨h1,H⟩ | ⟨h1,H⟩ := bC H
  ·refine nA h1 ?_
   refine Tr.exit ?_
   refine And.intro (fun _ => ?_) (fun h => absurd rfl h)
   obtain rfl := si H
   have H := Ho4
   dsimp only at H
   exact jA y2 H [1] []
  refine tA h1 ?_
  refine tK ?_
  refine tS ?_
  refine tB ?_
  refine tS ?_
  refine rA 2 ?_
  obtain ⟨v5,ev5,H⟩ := bs H
  refine iA intRow ev5 ?_
  refine uA 3 131107 0 ?_
  obtain ⟨h2,H⟩ | ⟨h2,H⟩ := bC H
  ·refine nA h2 ?_
   refine tK ?_
   refine eA 3 35 0 ?_
   refine eA 3 35 0 ?_
   exact jB mo4 ((IntKind.wrap .i64 (y1 + 1)),(IntKind.wrap .i64 (y2 + 1))) H [5,0,1] []
  refine tA h2 ?_
  refine gA 1 16 0 ?_
  refine te ?_
  obtain rfl := si H
  have H := Ho4
  dsimp only at H
  obtain rfl := si H
  exact fP [(false,[cI (-1)])]
 rintro y3 H
 have H : (Jj n y3) = some r := H
 unfold Jj at H
 refine gA 2 16 0 ?_
 exact te (by obtain rfl := si H; exact fP [(false,[cI y3])])
def YS (n : Nat) (y3 : Int) : Option (Int) :=
  (some y3)
def qa (n : Nat) : Nat → (List zA) → Int → Int → Option ((Int) ⊕ (Int))
  | 0,_,_,_ => none
  | mo4 + 1,x0,y1,y2 => (bif (decide (y1 < (x0.length : Int))) then ((idx x0 y1).bind fun v5 => (bif (v5.Id != y2) then (some (Sum.inr (-1))) else ((idx x0 y1).bind fun v6 => ((Q9 n (IntKind.wrap .i64 (y2 + 1))).bind fun r7 => (bif (!(v6.Name.toList == r7.toList)) then (some (Sum.inr (-1))) else ((idx x0 y1).bind fun v8 => ((J0 n v8.Ps (IntKind.wrap .i64 ((IntKind.wrap .i64 (y2 + 1)) + 1))).bind fun r9 => (bif (decide (r9 < 0)) then (some (Sum.inr (-1))) else ((idx x0 y1).bind fun v10 => ((Yl n v10.F r9).bind fun r11 => (bif (decide (r11 < 0)) then (some (Sum.inr (-1))) else ((idx x0 y1).bind fun v12 => ((Yn n v12.V.Rows r11).bind fun r13 => (bif (decide (r13 < 0)) then (some (Sum.inr (-1))) else ((idx x0 y1).bind fun v14 => ((JQ n v14.V.Pv r13).bind fun r15 => (bif (decide (r15 < 0)) then (some (Sum.inr (-1))) else ((idx x0 y1).bind fun v16 => (bif (v16.Tk != r15) then (some (Sum.inr (-1))) else ((idx x0 y1).bind fun v17 => (bif (v17.Pa != (IntKind.wrap .i64 (r15 + 1))) then (some (Sum.inr (-1))) else ((idx x0 y1).bind fun v18 => (bif (v18.Wo != (IntKind.wrap .i64 ((IntKind.wrap .i64 (r15 + 1)) + 1))) then (some (Sum.inr (-1))) else ((idx x0 y1).bind fun v19 => (bif (v19.Dr != (IntKind.wrap .i64 ((IntKind.wrap .i64 ((IntKind.wrap .i64 (r15 + 1)) + 1)) + 1))) then (some (Sum.inr (-1))) else ((idx x0 y1).bind fun v20 => (bif (v20.Ve != (IntKind.wrap .i64 ((IntKind.wrap .i64 ((IntKind.wrap .i64 ((IntKind.wrap .i64 (r15 + 1)) + 1)) + 1)) + 1))) then (some (Sum.inr (-1))) else (qa n mo4 x0 (IntKind.wrap .i64 (y1 + 1)) (IntKind.wrap .i64 ((IntKind.wrap .i64 ((IntKind.wrap .i64 ((IntKind.wrap .i64 ((IntKind.wrap .i64 (r15 + 1)) + 1)) + 1)) + 1)) + 1)))))))))))))))))))))))))))))) else (some (Sum.inl y2)))
def Qw (n : Nat) (x0 : (List zA)) (x1 : Int) : Option (Int) :=
  ((qa n n x0 0 x1).bind fun o => match o with | .inl y3 => (YS n y3) | .inr r => some r)
theorem zG8 (n : Nat) (x0 : (List zA)) (x1 : Int) (r : Int) (H : Qw n x0 x1 = some r) : zD Tryz.prog 127 [.val false [.sl false 11 (CV.frzEs (x0.map zA.row))],.val false [.lit (.int .i64 x1)]] [.val false [.lit (.int .i64 r)]] [] := by
 refine cA Tryz.func127 (.seq (Rg Tryz.f127 0) (.seq (.seq (Rg Tryz.f127 1) (.block 0 (.loop (.seq (.seq (Rg Tryz.f127 2) (.cond (.tmp 9) .skip (.exit 0))) (.seq (.block 1 (.seq (.seq (Rg Tryz.f127 4) (.cond (.tmp 18) (.seq (Rg Tryz.f127 5) .ret) .skip)) (.seq (Rg Tryz.f127 6) (.seq (.seq (Rd Tryz.f127 7) (.cond (.tmp 28) (.seq (Rg Tryz.f127 8) .ret) .skip)) (.seq (Rg Tryz.f127 9) (.seq (Rg Tryz.f127 10) (.seq (.seq (Rg Tryz.f127 11) (.cond (.tmp 39) (.seq (Rg Tryz.f127 12) .ret) .skip)) (.seq (Rg Tryz.f127 13) (.seq (.seq (Rg Tryz.f127 14) (.cond (.tmp 48) (.seq (Rg Tryz.f127 15) .ret) .skip)) (.seq (Rg Tryz.f127 16) (.seq (.seq (Rg Tryz.f127 17) (.cond (.tmp 58) (.seq (Rg Tryz.f127 18) .ret) .skip)) (.seq (Rg Tryz.f127 19) (.seq (.seq (Rg Tryz.f127 20) (.cond (.tmp 68) (.seq (Rg Tryz.f127 21) .ret) .skip)) (.seq (.seq (Rg Tryz.f127 22) (.cond (.tmp 75) (.seq (Rg Tryz.f127 23) .ret) .skip)) (.seq (Rg Tryz.f127 24) (.seq (.seq (Rg Tryz.f127 25) (.cond (.tmp 84) (.seq (Rg Tryz.f127 26) .ret) .skip)) (.seq (Rg Tryz.f127 27) (.seq (.seq (Rg Tryz.f127 28) (.cond (.tmp 93) (.seq (Rg Tryz.f127 29) .ret) .skip)) (.seq (Rg Tryz.f127 30) (.seq (.seq (Rg Tryz.f127 31) (.cond (.tmp 102) (.seq (Rg Tryz.f127 32) .ret) .skip)) (.seq (Rg Tryz.f127 33) (.seq (.seq (Rg Tryz.f127 34) (.cond (.tmp 111) (.seq (Rg Tryz.f127 35) .ret) .skip)) (Rg Tryz.f127 36))))))))))))))))))))))) (Rg Tryz.f127 3)))))) (.seq (Rg Tryz.f127 37) .ret))) [.tmp 4] fun cx => ?_
 unfold Qw at H
 refine gA 1 3 0 ?_
 refine tS ?_
 refine gA 1 35 0 ?_
 obtain ⟨o4,eo4,Ho4⟩ := bs H
 clear H
 refine Tr.mid (ι := Int) (fun v => ⟨115,0,[sI 1 v],[]⟩) (fun v => YS n v = some r) ?_ ?_
 ·refine tB ?_
  refine Tr.loop (ι := Nat × (Int × Int)) (fun v => ⟨115,0,[sI 5 v.2.1,sC 0 (cF 11 x0 zA.row),sI 1 v.2.2],[]⟩) (fun v => qa n v.1 x0 v.2.1 v.2.2 = some o4) (fun v => v.1) (n,(0,x1)) eo4 (St.sub_of [5,0,1] [] kr) ?_
  rintro ⟨mo4,y1,y2⟩ H
  have H : qa n mo4 x0 y1 y2 = some o4 := H
  obtain _ | mo4 := mo4
  ·exact nN H
  rw [qa] at H
  refine tS ?_
  refine rA 2 ?_
  refine kF x0 zA.row ?_
  refine uA 1 547 0 ?_
  obtain ⟨h1,H⟩ | ⟨h1,H⟩ := bC H
  ·refine nA h1 ?_
   refine Tr.exit ?_
   refine And.intro (fun _ => ?_) (fun h => absurd rfl h)
   obtain rfl := si H
   have H := Ho4
   dsimp only at H
   exact jA y2 H [1] []
  refine tA h1 ?_
  refine tK ?_
  refine tS ?_
  refine tB ?_
  refine tS ?_
  refine rA 2 ?_
  obtain ⟨v5,ev5,H⟩ := bs H
  refine iA zA.row ev5 ?_
  refine uA 4 262179 0 ?_
  obtain ⟨h2,H⟩ | ⟨h2,H⟩ := bC H
  ·refine nA h2 ?_
   refine tK ?_
   refine gA 3 35 0 ?_
   refine tS ?_
   obtain ⟨v6,ev6,H⟩ := bs H
   obtain ⟨r7,er7,H⟩ := bs H
   refine Tr.draws mixed 8 kr ⟨115,0,[sB 28 (!(v6.Name.toList == r7.toList)),sI 1 (IntKind.wrap .i64 (y2 + 1)),sI 5 y1,sC 0 (cF 11 x0 zA.row)],[]⟩ (fun cx => ?_) ?_
   ·refine aA [(0,[]),(1,[])] 6 [] fun cx => ?_
    refine aI tOk 2 63 0 21 22 23 none ⟨(.slot 21),[],0,false,11,(CV.frzEs (x0.map zA.row))⟩ y1 (CV.frzRow (zA.row v6)) _ kr kr kr kr kr kr rfl (Zq ev6) rfl (fun cx => ?_)
    refine aA [(3,[]),(4,[]),(5,[])] 2 [] fun cx => ?_
    refine bA 6 ?_
    refine vA [.rd] (zFF n (IntKind.wrap .i64 (y2 + 1)) r7 er7) ?_
    refine fA ?_
    refine aA [(7,[])] 0 [] fun cx => ?_
    exact eE [28,1,5,0] []
   refine sT ⟨115,0,[sB 28 (!(v6.Name.toList == r7.toList)),sI 1 (IntKind.wrap .i64 (y2 + 1)),sI 5 y1,sC 0 (cF 11 x0 zA.row)],[]⟩ ?_
   cases h3 : (!(v6.Name.toList == r7.toList))
   ·have H := zG h3 H
    refine nB_ ?_
    refine tK ?_
    refine gA 3 35 0 ?_
    refine rA 2 ?_
    obtain ⟨v8,ev8,H⟩ := bs H
    refine iA zA.row ev8 ?_
    refine lA 3 ?_
    obtain ⟨r9,er9,H⟩ := bs H
    refine vA [.rd,.rd] (zKH n v8.Ps (IntKind.wrap .i64 ((IntKind.wrap .i64 (y2 + 1)) + 1)) r9 er9) ?_
    refine uA 1 35 0 ?_
    refine tS ?_
    refine gA 2 549755813923 0 ?_
    obtain ⟨h4,H⟩ | ⟨h4,H⟩ := bC H
    ·refine nA h4 ?_
     refine tK ?_
     refine rA 2 ?_
     obtain ⟨v10,ev10,H⟩ := bs H
     refine iA zA.row ev10 ?_
     refine lA 3 ?_
     obtain ⟨r11,er11,H⟩ := bs H
     refine vA [.rd,.rd] (zIc n v10.F r9 r11 er11) ?_
     refine uA 1 35 0 ?_
     refine tS ?_
     refine gA 2 281474976710691 0 ?_
     obtain ⟨h5,H⟩ | ⟨h5,H⟩ := bC H
     ·refine nA h5 ?_
      refine tK ?_
      refine rA 2 ?_
      obtain ⟨v12,ev12,H⟩ := bs H
      refine iA zA.row ev12 ?_
      refine lA 4 ?_
      obtain ⟨r13,er13,H⟩ := bs H
      refine vA [.rd,.rd] (zIe n v12.V.Rows r11 r13 er13) ?_
      refine uA 1 35 0 ?_
      refine tS ?_
      refine gA 2 0x400000000000023 0 ?_
      refine sT ⟨115,0,[sB 58 (decide (r13 < 0)),sI 1 r13,sI 5 y1,sC 0 (cF 11 x0 zA.row)],[]⟩ ?_
      cases h6 : (decide (r13 < 0))
      ·have H := zG h6 H
       refine nB_ ?_
       refine tK ?_
       refine rA 2 ?_
       obtain ⟨v14,ev14,H⟩ := bs H
       refine iA zA.row ev14 ?_
       refine lA 4 ?_
       obtain ⟨r15,er15,H⟩ := bs H
       refine vA [.rd,.rd] (zJb n v14.V.Pv r13 r15 er15) ?_
       refine uA 1 35 0 ?_
       refine tS ?_
       refine gA 2 0x100000000000000023 0 ?_
       obtain ⟨h7,H⟩ | ⟨h7,H⟩ := bC H
       ·refine nA h7 ?_
        refine tK ?_
        refine tS ?_
        refine rA 2 ?_
        obtain ⟨v16,ev16,H⟩ := bs H
        refine iA zA.row ev16 ?_
        refine uA 4 0x8000000000000000023 0 ?_
        obtain ⟨h8,H⟩ | ⟨h8,H⟩ := bC H
        ·refine nA h8 ?_
         refine tK ?_
         refine gA 3 35 0 ?_
         refine tS ?_
         refine rA 2 ?_
         obtain ⟨v17,ev17,H⟩ := bs H
         refine iA zA.row ev17 ?_
         refine uA 4 0x1000000000000000000023 0 ?_
         obtain ⟨h9,H⟩ | ⟨h9,H⟩ := bC H
         ·refine nA h9 ?_
          refine tK ?_
          refine gA 3 35 0 ?_
          refine tS ?_
          refine rA 2 ?_
          obtain ⟨v18,ev18,H⟩ := bs H
          refine iA zA.row ev18 ?_
          refine uA 4 0x200000000000000000000023 0 ?_
          refine sT ⟨115,0,[sB 93 (v18.Wo != (IntKind.wrap .i64 ((IntKind.wrap .i64 (r15 + 1)) + 1))),sI 1 (IntKind.wrap .i64 ((IntKind.wrap .i64 (r15 + 1)) + 1)),sI 5 y1,sC 0 (cF 11 x0 zA.row)],[]⟩ ?_
          cases h10 : (v18.Wo != (IntKind.wrap .i64 ((IntKind.wrap .i64 (r15 + 1)) + 1)))
          ·have H := zG h10 H
           refine nB_ ?_
           refine tK ?_
           refine gA 3 35 0 ?_
           refine tS ?_
           refine rA 2 ?_
           obtain ⟨v19,ev19,H⟩ := bs H
           refine iA zA.row ev19 ?_
           refine uA 4 0x40000000000000000000000023 0 ?_
           obtain ⟨h11,H⟩ | ⟨h11,H⟩ := bC H
           ·refine nA h11 ?_
            refine tK ?_
            refine gA 3 35 0 ?_
            refine tS ?_
            refine rA 2 ?_
            obtain ⟨v20,ev20,H⟩ := bs H
            refine iA zA.row ev20 ?_
            refine uA 4 0x8000000000000000000000000023 0 ?_
            obtain ⟨h12,H⟩ | ⟨h12,H⟩ := bC H
            ·refine nA h12 ?_
             refine tK ?_
             refine eA 3 35 0 ?_
             refine eA 3 35 0 ?_
             exact jB mo4 ((IntKind.wrap .i64 (y1 + 1)),(IntKind.wrap .i64 ((IntKind.wrap .i64 ((IntKind.wrap .i64 ((IntKind.wrap .i64 ((IntKind.wrap .i64 (r15 + 1)) + 1)) + 1)) + 1)) + 1))) H [5,0,1] []
            refine tA h12 ?_
            refine gA 1 16 0 ?_
            refine te ?_
            obtain rfl := si H
            have H := Ho4
            dsimp only at H
            obtain rfl := si H
            exact fP [(false,[cI (-1)])]
           refine tA h11 ?_
           refine gA 1 16 0 ?_
           refine te ?_
           obtain rfl := si H
           have H := Ho4
           dsimp only at H
           obtain rfl := si H
           exact fP [(false,[cI (-1)])]
          have H := zH h10 H
          refine tB_ ?_
          refine gA 1 16 0 ?_
          refine te ?_
          obtain rfl := si H
          have H := Ho4
          dsimp only at H
          obtain rfl := si H
          exact fP [(false,[cI (-1)])]
         refine tA h9 ?_
         refine gA 1 16 0 ?_
         refine te ?_
         obtain rfl := si H
         have H := Ho4
         dsimp only at H
         obtain rfl := si H
         exact fP [(false,[cI (-1)])]
        refine tA h8 ?_
        refine gA 1 16 0 ?_
        refine te ?_
        obtain rfl := si H
        have H := Ho4
        dsimp only at H
        obtain rfl := si H
        exact fP [(false,[cI (-1)])]
       refine tA h7 ?_
       refine gA 1 16 0 ?_
       refine te ?_
       obtain rfl := si H
       have H := Ho4
       dsimp only at H
       obtain rfl := si H
       exact fP [(false,[cI (-1)])]
      have H := zH h6 H
      refine tB_ ?_
      refine gA 1 16 0 ?_
      refine te ?_
      obtain rfl := si H
      have H := Ho4
      dsimp only at H
      obtain rfl := si H
      exact fP [(false,[cI (-1)])]
     refine tA h5 ?_
     refine gA 1 16 0 ?_
     refine te ?_
     obtain rfl := si H
     have H := Ho4
     dsimp only at H
     obtain rfl := si H
     exact fP [(false,[cI (-1)])]
    refine tA h4 ?_
    refine gA 1 16 0 ?_
    refine te ?_
    obtain rfl := si H
    have H := Ho4
    dsimp only at H
    obtain rfl := si H
    exact fP [(false,[cI (-1)])]
   have H := zH h3 H
   refine tB_ ?_
   refine gA 1 16 0 ?_
   refine te ?_
   obtain rfl := si H
   have H := Ho4
   dsimp only at H
   obtain rfl := si H
   exact fP [(false,[cI (-1)])]
  refine tA h2 ?_
  refine gA 1 16 0 ?_
  refine te ?_
  obtain rfl := si H
  have H := Ho4
  dsimp only at H
  obtain rfl := si H
  exact fP [(false,[cI (-1)])]
 rintro y3 H
 have H : (YS n y3) = some r := H
 unfold YS at H
 refine gA 2 16 0 ?_
 exact te (by obtain rfl := si H; exact fP [(false,[cI y3])])
def Y6 (n : Nat) (y3 : Int) : Option (Int) :=
  (some y3)
def qt (n : Nat) : Nat → (List Link) → Int → Int → Option ((Int) ⊕ (Int))
  | 0,_,_,_ => none
  | mo4 + 1,x0,y1,y2 => (bif (decide (y1 < (x0.length : Int))) then ((idx x0 y1).bind fun v5 => (bif (v5.A != y2) then (some (Sum.inr (-1))) else ((idx x0 y1).bind fun v6 => (bif (v6.P != (IntKind.wrap .i64 (y2 + 1))) then (some (Sum.inr (-1))) else ((idx x0 y1).bind fun v7 => (bif (v7.B != (IntKind.wrap .i64 ((IntKind.wrap .i64 (y2 + 1)) + 1))) then (some (Sum.inr (-1))) else ((idx x0 y1).bind fun v8 => (bif (v8.Q != (IntKind.wrap .i64 ((IntKind.wrap .i64 ((IntKind.wrap .i64 (y2 + 1)) + 1)) + 1))) then (some (Sum.inr (-1))) else (qt n mo4 x0 (IntKind.wrap .i64 (y1 + 1)) (IntKind.wrap .i64 ((IntKind.wrap .i64 ((IntKind.wrap .i64 ((IntKind.wrap .i64 (y2 + 1)) + 1)) + 1)) + 1))))))))))) else (some (Sum.inl y2)))
def Ym (n : Nat) (x0 : (List Link)) (x1 : Int) : Option (Int) :=
  ((qt n n x0 0 x1).bind fun o => match o with | .inl y3 => (Y6 n y3) | .inr r => some r)
theorem zId (n : Nat) (x0 : (List Link)) (x1 : Int) (r : Int) (H : Ym n x0 x1 = some r) : zD Tryz.prog 128 [.val false [.sl false 4 (CV.frzEs (x0.map Link.row))],.val false [.lit (.int .i64 x1)]] [.val false [.lit (.int .i64 r)]] [] := by
 refine cA Tryz.func128 (.seq (Rg Tryz.f128 0) (.seq (.seq (Rg Tryz.f128 1) (.block 0 (.loop (.seq (.seq (Rg Tryz.f128 2) (.cond (.tmp 9) .skip (.exit 0))) (.seq (.block 1 (.seq (.seq (Rg Tryz.f128 4) (.cond (.tmp 18) (.seq (Rg Tryz.f128 5) .ret) .skip)) (.seq (Rg Tryz.f128 6) (.seq (.seq (Rg Tryz.f128 7) (.cond (.tmp 27) (.seq (Rg Tryz.f128 8) .ret) .skip)) (.seq (Rg Tryz.f128 9) (.seq (.seq (Rg Tryz.f128 10) (.cond (.tmp 36) (.seq (Rg Tryz.f128 11) .ret) .skip)) (.seq (Rg Tryz.f128 12) (.seq (.seq (Rg Tryz.f128 13) (.cond (.tmp 45) (.seq (Rg Tryz.f128 14) .ret) .skip)) (Rg Tryz.f128 15))))))))) (Rg Tryz.f128 3)))))) (.seq (Rg Tryz.f128 16) .ret))) [.tmp 4] fun cx => ?_
 unfold Ym at H
 refine gA 1 3 0 ?_
 refine tS ?_
 refine gA 1 35 0 ?_
 obtain ⟨o4,eo4,Ho4⟩ := bs H
 clear H
 refine Tr.mid (ι := Int) (fun v => ⟨49,0,[sI 1 v],[]⟩) (fun v => Y6 n v = some r) ?_ ?_
 ·refine tB ?_
  refine Tr.loop (ι := Nat × (Int × Int)) (fun v => ⟨49,0,[sI 5 v.2.1,sC 0 (cF 4 x0 Link.row),sI 1 v.2.2],[]⟩) (fun v => qt n v.1 x0 v.2.1 v.2.2 = some o4) (fun v => v.1) (n,(0,x1)) eo4 (St.sub_of [5,0,1] [] kr) ?_
  rintro ⟨mo4,y1,y2⟩ H
  have H : qt n mo4 x0 y1 y2 = some o4 := H
  obtain _ | mo4 := mo4
  ·exact nN H
  rw [qt] at H
  refine tS ?_
  refine rA 2 ?_
  refine kF x0 Link.row ?_
  refine uA 1 547 0 ?_
  obtain ⟨h1,H⟩ | ⟨h1,H⟩ := bC H
  ·refine nA h1 ?_
   refine Tr.exit ?_
   refine And.intro (fun _ => ?_) (fun h => absurd rfl h)
   obtain rfl := si H
   have H := Ho4
   dsimp only at H
   exact jA y2 H [1] []
  refine tA h1 ?_
  refine tK ?_
  refine tS ?_
  refine tB ?_
  refine tS ?_
  refine rA 2 ?_
  obtain ⟨v5,ev5,H⟩ := bs H
  refine iA Link.row ev5 ?_
  refine uA 4 262179 0 ?_
  obtain ⟨h2,H⟩ | ⟨h2,H⟩ := bC H
  ·refine nA h2 ?_
   refine tK ?_
   refine gA 3 35 0 ?_
   refine tS ?_
   refine rA 2 ?_
   obtain ⟨v6,ev6,H⟩ := bs H
   refine iA Link.row ev6 ?_
   refine uA 4 134217763 0 ?_
   obtain ⟨h3,H⟩ | ⟨h3,H⟩ := bC H
   ·refine nA h3 ?_
    refine tK ?_
    refine gA 3 35 0 ?_
    refine tS ?_
    refine rA 2 ?_
    obtain ⟨v7,ev7,H⟩ := bs H
    refine iA Link.row ev7 ?_
    refine uA 4 68719476771 0 ?_
    obtain ⟨h4,H⟩ | ⟨h4,H⟩ := bC H
    ·refine nA h4 ?_
     refine tK ?_
     refine gA 3 35 0 ?_
     refine tS ?_
     refine rA 2 ?_
     obtain ⟨v8,ev8,H⟩ := bs H
     refine iA Link.row ev8 ?_
     refine uA 4 35184372088867 0 ?_
     refine sT ⟨49,0,[sB 45 (v8.Q != (IntKind.wrap .i64 ((IntKind.wrap .i64 ((IntKind.wrap .i64 (y2 + 1)) + 1)) + 1))),sI 1 (IntKind.wrap .i64 ((IntKind.wrap .i64 ((IntKind.wrap .i64 (y2 + 1)) + 1)) + 1)),sI 5 y1,sC 0 (cF 4 x0 Link.row)],[]⟩ ?_
     cases h5 : (v8.Q != (IntKind.wrap .i64 ((IntKind.wrap .i64 ((IntKind.wrap .i64 (y2 + 1)) + 1)) + 1)))
     ·have H := zG h5 H
      refine nB_ ?_
      refine tK ?_
      refine eA 3 35 0 ?_
      refine eA 3 35 0 ?_
      exact jB mo4 ((IntKind.wrap .i64 (y1 + 1)),(IntKind.wrap .i64 ((IntKind.wrap .i64 ((IntKind.wrap .i64 ((IntKind.wrap .i64 (y2 + 1)) + 1)) + 1)) + 1))) H [5,0,1] []
     have H := zH h5 H
     refine tB_ ?_
     refine gA 1 16 0 ?_
     refine te ?_
     obtain rfl := si H
     have H := Ho4
     dsimp only at H
     obtain rfl := si H
     exact fP [(false,[cI (-1)])]
    refine tA h4 ?_
    refine gA 1 16 0 ?_
    refine te ?_
    obtain rfl := si H
    have H := Ho4
    dsimp only at H
    obtain rfl := si H
    exact fP [(false,[cI (-1)])]
   refine tA h3 ?_
   refine gA 1 16 0 ?_
   refine te ?_
   obtain rfl := si H
   have H := Ho4
   dsimp only at H
   obtain rfl := si H
   exact fP [(false,[cI (-1)])]
  refine tA h2 ?_
  refine gA 1 16 0 ?_
  refine te ?_
  obtain rfl := si H
  have H := Ho4
  dsimp only at H
  obtain rfl := si H
  exact fP [(false,[cI (-1)])]
 rintro y3 H
 have H : (Y6 n y3) = some r := H
 unfold Y6 at H
 refine gA 2 16 0 ?_
 exact te (by obtain rfl := si H; exact fP [(false,[cI y3])])
def Jk (n : Nat) (y3 : Int) : Option (Int) :=
  (some y3)
def q7 (n : Nat) : Nat → (List Say) → Int → Int → Option ((Int) ⊕ (Int))
  | 0,_,_,_ => none
  | mo4 + 1,x0,y1,y2 => (bif (decide (y1 < (x0.length : Int))) then ((idx x0 y1).bind fun v5 => (bif (v5.Link != y2) then (some (Sum.inr (-1))) else ((idx x0 y1).bind fun v6 => (bif (decide ((3 : Int) ≠ 0)) then (bif (!(v6.Back == ((Int.tmod (IntKind.wrap .i64 (y2 + 1)) 3) == 0))) then (some (Sum.inr (-1))) else ((idx x0 y1).bind fun v8 => (bif (v8.V.Root != (IntKind.wrap .i64 ((IntKind.wrap .i64 (y2 + 1)) + 1))) then (some (Sum.inr (-1))) else ((idx x0 y1).bind fun v9 => (bif (v9.V.Co != (IntKind.wrap .i64 ((IntKind.wrap .i64 ((IntKind.wrap .i64 (y2 + 1)) + 1)) + 1))) then (some (Sum.inr (-1))) else ((idx x0 y1).bind fun v10 => (bif (v10.V.Hops != (IntKind.wrap .i64 ((IntKind.wrap .i64 ((IntKind.wrap .i64 ((IntKind.wrap .i64 (y2 + 1)) + 1)) + 1)) + 1))) then (some (Sum.inr (-1))) else ((idx x0 y1).bind fun v11 => (bif (v11.V.Bridge != (IntKind.wrap .i64 ((IntKind.wrap .i64 ((IntKind.wrap .i64 ((IntKind.wrap .i64 ((IntKind.wrap .i64 (y2 + 1)) + 1)) + 1)) + 1)) + 1))) then (some (Sum.inr (-1))) else ((idx x0 y1).bind fun v12 => (bif (v12.V.Port != (IntKind.wrap .i64 ((IntKind.wrap .i64 ((IntKind.wrap .i64 ((IntKind.wrap .i64 ((IntKind.wrap .i64 ((IntKind.wrap .i64 (y2 + 1)) + 1)) + 1)) + 1)) + 1)) + 1))) then (some (Sum.inr (-1))) else (q7 n mo4 x0 (IntKind.wrap .i64 (y1 + 1)) (IntKind.wrap .i64 ((IntKind.wrap .i64 ((IntKind.wrap .i64 ((IntKind.wrap .i64 ((IntKind.wrap .i64 ((IntKind.wrap .i64 ((IntKind.wrap .i64 (y2 + 1)) + 1)) + 1)) + 1)) + 1)) + 1)) + 1)))))))))))))) else none)))) else (some (Sum.inl y2)))
def JR (n : Nat) (x0 : (List Say)) (x1 : Int) : Option (Int) :=
  ((q7 n n x0 0 x1).bind fun o => match o with | .inl y3 => (Jk n y3) | .inr r => some r)
theorem zJc (n : Nat) (x0 : (List Say)) (x1 : Int) (r : Int) (H : JR n x0 x1 = some r) : zD Tryz.prog 129 [.val false [.sl false 7 (CV.frzEs (x0.map Say.row))],.val false [.lit (.int .i64 x1)]] [.val false [.lit (.int .i64 r)]] [] := by
 refine cA Tryz.func129 (.seq (Rg Tryz.f129 0) (.seq (.seq (Rg Tryz.f129 1) (.block 0 (.loop (.seq (.seq (Rg Tryz.f129 2) (.cond (.tmp 9) .skip (.exit 0))) (.seq (.block 1 (.seq (.seq (Rg Tryz.f129 4) (.cond (.tmp 18) (.seq (Rg Tryz.f129 5) .ret) .skip)) (.seq (Rg Tryz.f129 6) (.seq (.seq (Rg Tryz.f129 7) (.cond (.tmp 29) (.seq (Rg Tryz.f129 8) .ret) .skip)) (.seq (Rg Tryz.f129 9) (.seq (.seq (Rg Tryz.f129 10) (.cond (.tmp 39) (.seq (Rg Tryz.f129 11) .ret) .skip)) (.seq (Rg Tryz.f129 12) (.seq (.seq (Rg Tryz.f129 13) (.cond (.tmp 49) (.seq (Rg Tryz.f129 14) .ret) .skip)) (.seq (Rg Tryz.f129 15) (.seq (.seq (Rg Tryz.f129 16) (.cond (.tmp 59) (.seq (Rg Tryz.f129 17) .ret) .skip)) (.seq (Rg Tryz.f129 18) (.seq (.seq (Rg Tryz.f129 19) (.cond (.tmp 69) (.seq (Rg Tryz.f129 20) .ret) .skip)) (.seq (Rg Tryz.f129 21) (.seq (.seq (Rg Tryz.f129 22) (.cond (.tmp 79) (.seq (Rg Tryz.f129 23) .ret) .skip)) (Rg Tryz.f129 24))))))))))))))) (Rg Tryz.f129 3)))))) (.seq (Rg Tryz.f129 25) .ret))) [.tmp 4] fun cx => ?_
 unfold JR at H
 refine gA 1 3 0 ?_
 refine tS ?_
 refine gA 1 35 0 ?_
 obtain ⟨o4,eo4,Ho4⟩ := bs H
 clear H
 refine Tr.mid (ι := Int) (fun v => ⟨83,0,[sI 1 v],[]⟩) (fun v => Jk n v = some r) ?_ ?_
 ·refine tB ?_
  refine Tr.loop (ι := Nat × (Int × Int)) (fun v => ⟨83,0,[sI 5 v.2.1,sC 0 (cF 7 x0 Say.row),sI 1 v.2.2],[]⟩) (fun v => q7 n v.1 x0 v.2.1 v.2.2 = some o4) (fun v => v.1) (n,(0,x1)) eo4 (St.sub_of [5,0,1] [] kr) ?_
  rintro ⟨mo4,y1,y2⟩ H
  have H : q7 n mo4 x0 y1 y2 = some o4 := H
  obtain _ | mo4 := mo4
  ·exact nN H
  rw [q7] at H
  refine tS ?_
  refine rA 2 ?_
  refine kF x0 Say.row ?_
  refine uA 1 547 0 ?_
  obtain ⟨h1,H⟩ | ⟨h1,H⟩ := bC H
  ·refine nA h1 ?_
   refine Tr.exit ?_
   refine And.intro (fun _ => ?_) (fun h => absurd rfl h)
   obtain rfl := si H
   have H := Ho4
   dsimp only at H
   exact jA y2 H [1] []
  refine tA h1 ?_
  refine tK ?_
  refine tS ?_
  refine tB ?_
  refine tS ?_
  refine rA 2 ?_
  obtain ⟨v5,ev5,H⟩ := bs H
  refine iA Say.row ev5 ?_
  refine uA 4 262179 0 ?_
  obtain ⟨h2,H⟩ | ⟨h2,H⟩ := bC H
  ·refine nA h2 ?_
   refine tK ?_
   refine gA 3 35 0 ?_
   refine tS ?_
   refine rA 2 ?_
   obtain ⟨v6,ev6,H⟩ := bs H
   refine iA Say.row ev6 ?_
   refine lA 3 ?_
   obtain ⟨hg7,H⟩ := gs H
   refine LAt.binC tOk (op := .rem) (t := 3) (ty := 3) (ty' := 3) (x := (.tmp 26)) (y := (.const (.int .i64 3))) (d := 27) (g := none) (.int .i64 (IntKind.wrap .i64 (y2 + 1))) (.int .i64 3) (.int .i64 (Int.tmod (IntKind.wrap .i64 (y2 + 1)) 3)) _ kr kr kr kr kr (φ := (IntKind.i64 = IntKind.i64 ∧ (3 : Int) ≠ 0)) kr (⟨rfl,of_decide_eq_true hg7⟩) rfl ?_
   refine uA 2 536870947 0 ?_
   obtain ⟨h3,H⟩ | ⟨h3,H⟩ := bC H
   ·refine nA h3 ?_
    refine tK ?_
    refine gA 3 35 0 ?_
    refine tS ?_
    refine rA 2 ?_
    obtain ⟨v8,ev8,H⟩ := bs H
    refine iA Say.row ev8 ?_
    refine uA 5 549755813923 0 ?_
    refine sT ⟨83,0,[sB 39 (v8.V.Root != (IntKind.wrap .i64 ((IntKind.wrap .i64 (y2 + 1)) + 1))),sI 1 (IntKind.wrap .i64 ((IntKind.wrap .i64 (y2 + 1)) + 1)),sI 5 y1,sC 0 (cF 7 x0 Say.row)],[]⟩ ?_
    cases h4 : (v8.V.Root != (IntKind.wrap .i64 ((IntKind.wrap .i64 (y2 + 1)) + 1)))
    ·have H := zG h4 H
     refine nB_ ?_
     refine tK ?_
     refine gA 3 35 0 ?_
     refine tS ?_
     refine rA 2 ?_
     obtain ⟨v9,ev9,H⟩ := bs H
     refine iA Say.row ev9 ?_
     refine uA 5 562949953421347 0 ?_
     obtain ⟨h5,H⟩ | ⟨h5,H⟩ := bC H
     ·refine nA h5 ?_
      refine tK ?_
      refine gA 3 35 0 ?_
      refine tS ?_
      refine rA 2 ?_
      obtain ⟨v10,ev10,H⟩ := bs H
      refine iA Say.row ev10 ?_
      refine uA 5 0x800000000000023 0 ?_
      obtain ⟨h6,H⟩ | ⟨h6,H⟩ := bC H
      ·refine nA h6 ?_
       refine tK ?_
       refine gA 3 35 0 ?_
       refine tS ?_
       refine rA 2 ?_
       obtain ⟨v11,ev11,H⟩ := bs H
       refine iA Say.row ev11 ?_
       refine uA 5 0x200000000000000023 0 ?_
       obtain ⟨h7,H⟩ | ⟨h7,H⟩ := bC H
       ·refine nA h7 ?_
        refine tK ?_
        refine gA 3 35 0 ?_
        refine tS ?_
        refine rA 2 ?_
        obtain ⟨v12,ev12,H⟩ := bs H
        refine iA Say.row ev12 ?_
        refine uA 5 0x80000000000000000023 0 ?_
        refine sT ⟨83,0,[sB 79 (v12.V.Port != (IntKind.wrap .i64 ((IntKind.wrap .i64 ((IntKind.wrap .i64 ((IntKind.wrap .i64 ((IntKind.wrap .i64 ((IntKind.wrap .i64 (y2 + 1)) + 1)) + 1)) + 1)) + 1)) + 1))),sI 1 (IntKind.wrap .i64 ((IntKind.wrap .i64 ((IntKind.wrap .i64 ((IntKind.wrap .i64 ((IntKind.wrap .i64 ((IntKind.wrap .i64 (y2 + 1)) + 1)) + 1)) + 1)) + 1)) + 1)),sI 5 y1,sC 0 (cF 7 x0 Say.row)],[]⟩ ?_
        cases h8 : (v12.V.Port != (IntKind.wrap .i64 ((IntKind.wrap .i64 ((IntKind.wrap .i64 ((IntKind.wrap .i64 ((IntKind.wrap .i64 ((IntKind.wrap .i64 (y2 + 1)) + 1)) + 1)) + 1)) + 1)) + 1)))
        ·have H := zG h8 H
         refine nB_ ?_
         refine tK ?_
         refine eA 3 35 0 ?_
         refine eA 3 35 0 ?_
         exact jB mo4 ((IntKind.wrap .i64 (y1 + 1)),(IntKind.wrap .i64 ((IntKind.wrap .i64 ((IntKind.wrap .i64 ((IntKind.wrap .i64 ((IntKind.wrap .i64 ((IntKind.wrap .i64 ((IntKind.wrap .i64 (y2 + 1)) + 1)) + 1)) + 1)) + 1)) + 1)) + 1))) H [5,0,1] []
        have H := zH h8 H
        refine tB_ ?_
        refine gA 1 16 0 ?_
        refine te ?_
        obtain rfl := si H
        have H := Ho4
        dsimp only at H
        obtain rfl := si H
        exact fP [(false,[cI (-1)])]
       refine tA h7 ?_
       refine gA 1 16 0 ?_
       refine te ?_
       obtain rfl := si H
       have H := Ho4
       dsimp only at H
       obtain rfl := si H
       exact fP [(false,[cI (-1)])]
      refine tA h6 ?_
      refine gA 1 16 0 ?_
      refine te ?_
      obtain rfl := si H
      have H := Ho4
      dsimp only at H
      obtain rfl := si H
      exact fP [(false,[cI (-1)])]
     refine tA h5 ?_
     refine gA 1 16 0 ?_
     refine te ?_
     obtain rfl := si H
     have H := Ho4
     dsimp only at H
     obtain rfl := si H
     exact fP [(false,[cI (-1)])]
    have H := zH h4 H
    refine tB_ ?_
    refine gA 1 16 0 ?_
    refine te ?_
    obtain rfl := si H
    have H := Ho4
    dsimp only at H
    obtain rfl := si H
    exact fP [(false,[cI (-1)])]
   refine tA h3 ?_
   refine gA 1 16 0 ?_
   refine te ?_
   obtain rfl := si H
   have H := Ho4
   dsimp only at H
   obtain rfl := si H
   exact fP [(false,[cI (-1)])]
  refine tA h2 ?_
  refine gA 1 16 0 ?_
  refine te ?_
  obtain rfl := si H
  have H := Ho4
  dsimp only at H
  obtain rfl := si H
  exact fP [(false,[cI (-1)])]
 rintro y3 H
 have H : (Jk n y3) = some r := H
 unfold Jk at H
 refine gA 2 16 0 ?_
 exact te (by obtain rfl := si H; exact fP [(false,[cI y3])])
def YZ (n : Nat) (x0 : Net) (x1 : Int) : Option (Int) :=
  ((Qw n x0.Bs x1).bind fun r1 => (bif (decide (r1 < 0)) then (some (-1)) else ((Ym n x0.Ls r1).bind fun r2 => (bif (decide (r2 < 0)) then (some (-1)) else ((JR n x0.Said r2).bind fun r3 => (bif (decide (r3 < 0)) then (some (-1)) else (some r3)))))))
theorem zFi (n : Nat) (x0 : Net) (x1 : Int) (r : Int) (H : YZ n x0 x1 = some r) : zD Tryz.prog 30 [.val true (CV.frzRow (Net.row x0)),.val false [.lit (.int .i64 x1)]] [.val false [.lit (.int .i64 r)]] [] := by
 refine cA Tryz.func30 (.seq (Rg Tryz.f30 0) (.seq (Rg Tryz.f30 1) (.seq (.seq (Rg Tryz.f30 2) (.cond (.tmp 10) (.seq (Rg Tryz.f30 3) .ret) .skip)) (.seq (Rg Tryz.f30 4) (.seq (.seq (Rg Tryz.f30 5) (.cond (.tmp 16) (.seq (Rg Tryz.f30 6) .ret) .skip)) (.seq (Rg Tryz.f30 7) (.seq (.seq (Rg Tryz.f30 8) (.cond (.tmp 22) (.seq (Rg Tryz.f30 9) .ret) .skip)) (.seq (Rg Tryz.f30 10) .ret)))))))) [.tmp 4] fun cx => ?_
 unfold YZ at H
 refine gA 2 6 4 ?_
 refine rA 3 ?_
 obtain ⟨r1,er1,H⟩ := bs H
 refine vA [.rd,.rd] (zG8 n x0.Bs x1 r1 er1) ?_
 refine uA 1 6 4 ?_
 refine tS ?_
 refine gA 2 1030 4 ?_
 obtain ⟨h1,H⟩ | ⟨h1,H⟩ := bC H
 ·refine nA h1 ?_
  refine tK ?_
  refine rA 3 ?_
  obtain ⟨r2,er2,H⟩ := bs H
  refine vA [.rd,.rd] (zId n x0.Ls r1 r2 er2) ?_
  refine uA 1 6 4 ?_
  refine tS ?_
  refine gA 2 65542 4 ?_
  obtain ⟨h2,H⟩ | ⟨h2,H⟩ := bC H
  ·refine nA h2 ?_
   refine tK ?_
   refine rA 3 ?_
   obtain ⟨r3,er3,H⟩ := bs H
   refine vA [.rd,.rd] (zJc n x0.Said r2 r3 er3) ?_
   refine uA 1 2 0 ?_
   refine tS ?_
   refine gA 2 4194306 0 ?_
   obtain ⟨h3,H⟩ | ⟨h3,H⟩ := bC H
   ·refine nA h3 ?_
    refine tK ?_
    refine gA 2 16 0 ?_
    exact te (by obtain rfl := si H; exact fP [(false,[cI r3])])
   refine tA h3 ?_
   refine gA 1 16 0 ?_
   exact te (by obtain rfl := si H; exact fP [(false,[cI (-1)])])
  refine tA h2 ?_
  refine gA 1 16 0 ?_
  exact te (by obtain rfl := si H; exact fP [(false,[cI (-1)])])
 refine tA h1 ?_
 refine gA 1 16 0 ?_
 exact te (by obtain rfl := si H; exact fP [(false,[cI (-1)])])
def Y3 (n : Nat) (x0 : Net) (x1 : Event) : Option (Bool) :=
  ((zBN n x0 1048576).bind fun r1 => (bif (decide (r1 < 0)) then (some true) else ((QF n x0).bind fun r2 => ((Zy n x1).bind fun r3 => ((Yx n r2 r3).bind fun r4 => ((QF n x0).bind fun r5 => ((Zy n x1).bind fun r6 => ((Qa n r5 r6).bind fun r7 => ((Q4 n r7.1 r4.1).bind fun r8 => (bif (!r8) then (some false) else (bif (!(r7.2 == r4.2)) then (some false) else ((QF n x0).bind fun r9 => ((Q4 n r5 r9).bind fun r10 => (bif (!r10) then (some false) else ((Ya n r5 1).bind fun r11 => (bif (decide (r11.1 < 0)) then (some false) else ((Q4 n r7.1 r4.1).bind fun r12 => (bif (!r12) then (some false) else ((Ya n r7.1 1).bind fun r13 => ((YZ n r13.2 1).bind fun r14 => (bif (decide (r14 < 0)) then (some false) else (bif (r14 != r13.1) then (some false) else ((QF n x0).bind fun r15 => ((Zy n x1).bind fun r16 => ((Qa n r15 r16).bind fun r17 => ((Q4 n r17.1 r4.1).bind fun r18 => (bif (!r18) then (some false) else (bif (!(r17.2 == r4.2)) then (some false) else ((YZ n r13.2 1).bind fun r19 => (bif (decide (r19 < 0)) then (some false) else (bif (r19 != r13.1) then (some false) else (some true))))))))))))))))))))))))))))))))
theorem zFL (n : Nat) (x0 : Net) (r2 : Net) (x1 : Event) (r3 : Event) (r4 : Net × Bool) (r1 : Int) (er2 : (QF n x0) = some r2) (er3 : (Zy n x1) = some r3) (er4 : (Yx n r2 r3) = some r4) (cx : Cx) : AT Tryz.prog cx (rg Tryz.f4 5) [] 11 [] ⟨104,0,[sB 20 (decide (r1 < 0)),sA 3 3 2 0,sA 2 2 3 0],[(3,(Event.row x1)),(2,(CV.frzRow (Net.row x0)))]⟩ (fun s => s = ⟨104,0,[sB 7 r4.2,sA 6 6 3 0,sA 3 3 2 0,sA 2 2 3 0],[(6,(Net.row r4.1)),(3,(Event.row x1)),(2,(CV.frzRow (Net.row x0)))]⟩) := by
 refine aA [(0,[1,3,4,9]),(2,[3,4,9])] 9 [⟨[3,4,9],61,3,24⟩,⟨[1,3,4,9],59,2,22⟩] fun cx => ?_
 refine AT.big2 tOk 1 8 kr (And.intro kr ?_) (And.intro kr ?_)
 ·refine vA [.rd] (zA6 n x0 r2 er2) ?_
  refine fA ?_
  refine AT.big2 tOk 3 8 kr (And.intro kr ?_) (And.intro kr ?_)
  ·refine vA [.rd] (Qc n x1 r3 er3) ?_
   refine fA ?_
   refine AT.big2 tOk 4 8 kr (And.intro kr ?_) (And.intro kr ?_)
   ·refine vA [.rd,.rd] (zEH n r2 r3 r4 er4) ?_
    refine fA ?_
    refine AT.movT tOk 5 (ty := 68) (t := 26) (d := 21) (g := none) [(true,(Net.row r4.1)),(false,[cB r4.2])] _ kr kr kr (.inl rfl) kr kr kr kr rfl (fun cx => ?_)
    refine aA [(6,[]),(7,[])] 3 [⟨[3,4,9],61,3,24⟩,⟨[1,3,4,9],59,2,22⟩] fun cx => ?_
    refine bA 8 ?_
    refine lA 1 ?_
    refine fA ?_
    refine bA 9 ?_
    refine lA 1 ?_
    refine fA ?_
    refine aA [(10,[])] 0 [⟨[3,4,9],61,3,24⟩,⟨[1,3,4,9],59,2,22⟩] fun cx => ?_
    exact eE [7,6,3,2] [6,3,2]
   ·refine lA 1 ?_
    refine fA ?_
    refine bA 4 ?_
    refine vA [.rd,.rd] (zEH n r2 r3 r4 er4) ?_
    refine fA ?_
    refine AT.movT tOk 5 (ty := 68) (t := 26) (d := 21) (g := none) [(true,(Net.row r4.1)),(false,[cB r4.2])] _ kr kr kr (.inl rfl) kr kr kr kr rfl (fun cx => ?_)
    refine aA [(6,[]),(7,[])] 2 [⟨[3,4,9],61,3,24⟩,⟨[1,3,4,9],59,2,22⟩] fun cx => ?_
    refine bA 9 ?_
    refine lA 1 ?_
    refine fA ?_
    refine aA [(10,[])] 0 [⟨[3,4,9],61,3,24⟩,⟨[1,3,4,9],59,2,22⟩] fun cx => ?_
    exact eE [7,6,3,2] [6,3,2]
  ·refine lA 1 ?_
   refine fA ?_
   refine bA 3 ?_
   refine vA [.rd] (Qc n x1 r3 er3) ?_
   refine fA ?_
   refine bA 4 ?_
   refine vA [.rd,.rd] (zEH n r2 r3 r4 er4) ?_
   refine fA ?_
   refine AT.movT tOk 5 (ty := 68) (t := 26) (d := 21) (g := none) [(true,(Net.row r4.1)),(false,[cB r4.2])] _ kr kr kr (.inl rfl) kr kr kr kr rfl (fun cx => ?_)
   refine aA [(6,[]),(7,[])] 2 [⟨[3,4,9],61,3,24⟩,⟨[1,3,4,9],59,2,22⟩] fun cx => ?_
   refine bA 9 ?_
   refine lA 1 ?_
   refine fA ?_
   refine aA [(10,[])] 0 [⟨[3,4,9],61,3,24⟩,⟨[1,3,4,9],59,2,22⟩] fun cx => ?_
   exact eE [7,6,3,2] [6,3,2]
 ·refine lA 1 ?_
  refine fA ?_
  refine bA 1 ?_
  refine vA [.rd] (zA6 n x0 r2 er2) ?_
  refine fA ?_
  refine bA 3 ?_
  refine vA [.rd] (Qc n x1 r3 er3) ?_
  refine fA ?_
  refine bA 4 ?_
  refine vA [.rd,.rd] (zEH n r2 r3 r4 er4) ?_
  refine fA ?_
  refine AT.movT tOk 5 (ty := 68) (t := 26) (d := 21) (g := none) [(true,(Net.row r4.1)),(false,[cB r4.2])] _ kr kr kr (.inl rfl) kr kr kr kr rfl (fun cx => ?_)
  refine aA [(6,[]),(7,[])] 2 [⟨[3,4,9],61,3,24⟩,⟨[1,3,4,9],59,2,22⟩] fun cx => ?_
  refine bA 9 ?_
  refine lA 1 ?_
  refine fA ?_
  refine aA [(10,[])] 0 [⟨[3,4,9],61,3,24⟩,⟨[1,3,4,9],59,2,22⟩] fun cx => ?_
  exact eE [7,6,3,2] [6,3,2]
theorem zFM (n : Nat) (x1 : Event) (r6 : Event) (r5 : Net) (r7 : Net × Bool) (r4 : Net × Bool) (x0 : Net) (er6 : (Zy n x1) = some r6) (er7 : (Qa n r5 r6) = some r7) (cx : Cx) : AT Tryz.prog cx (rg Tryz.f4 7) [] 10 [] ⟨104,0,[sA 8 8 3 0,sB 7 r4.2,sA 6 6 3 0,sA 3 3 2 0,sA 2 2 3 0],[(8,(Net.row r5)),(6,(Net.row r4.1)),(3,(Event.row x1)),(2,(CV.frzRow (Net.row x0)))]⟩ (fun s => s = ⟨104,0,[sB 10 r7.2,sA 9 9 3 0,sA 8 8 3 0,sB 7 r4.2,sA 6 6 3 0,sA 3 3 2 0,sA 2 2 3 0],[(9,(Net.row r7.1)),(8,(Net.row r5)),(6,(Net.row r4.1)),(3,(Event.row x1)),(2,(CV.frzRow (Net.row x0)))]⟩) := by
 refine aA [(0,[3,8]),(1,[2,3,8])] 8 [⟨[2,3,8],61,3,33⟩,⟨[3,8],67,8,32⟩] fun cx => ?_
 refine AT.big2 tOk 2 7 kr (And.intro kr ?_) (And.intro kr ?_)
 ·refine vA [.rd] (Qc n x1 r6 er6) ?_
  refine fA ?_
  refine AT.big2 tOk 3 7 kr (And.intro kr ?_) (And.intro kr ?_)
  ·refine vB [.rd,.rd] [.box 8] (zAa n r5 r6 r7 er7) (.inr (zk (Net.row_mine _) (zk (zJ zL zy) zz))) ?_
   refine fA ?_
   refine AT.movT tOk 4 (ty := 68) (t := 35) (d := 31) (g := none) [(true,(Net.row r7.1)),(false,[cB r7.2])] _ kr kr kr (.inl rfl) kr kr kr kr rfl (fun cx => ?_)
   refine aA [(5,[]),(6,[])] 3 [⟨[2,3,8],61,3,33⟩,⟨[3,8],67,8,32⟩] fun cx => ?_
   refine bA 7 ?_
   refine lA 1 ?_
   refine fA ?_
   refine bA 8 ?_
   refine lA 1 ?_
   refine fA ?_
   refine aA [(9,[])] 0 [⟨[2,3,8],61,3,33⟩,⟨[3,8],67,8,32⟩] fun cx => ?_
   exact eE [10,9,8,7,6,3,2] [9,8,6,3,2]
  ·refine lA 1 ?_
   refine fA ?_
   refine bA 3 ?_
   refine vB [.rd,.rd] [.box 8] (zAa n r5 r6 r7 er7) (.inr (zk (Net.row_mine _) (zk (zJ zL zy) zz))) ?_
   refine fA ?_
   refine AT.movT tOk 4 (ty := 68) (t := 35) (d := 31) (g := none) [(true,(Net.row r7.1)),(false,[cB r7.2])] _ kr kr kr (.inl rfl) kr kr kr kr rfl (fun cx => ?_)
   refine aA [(5,[]),(6,[])] 2 [⟨[2,3,8],61,3,33⟩,⟨[3,8],67,8,32⟩] fun cx => ?_
   refine bA 8 ?_
   refine lA 1 ?_
   refine fA ?_
   refine aA [(9,[])] 0 [⟨[2,3,8],61,3,33⟩,⟨[3,8],67,8,32⟩] fun cx => ?_
   exact eE [10,9,8,7,6,3,2] [9,8,6,3,2]
 ·refine lA 1 ?_
  refine fA ?_
  refine bA 2 ?_
  refine vA [.rd] (Qc n x1 r6 er6) ?_
  refine fA ?_
  refine bA 3 ?_
  refine vB [.rd,.rd] [.box 8] (zAa n r5 r6 r7 er7) (.inr (zk (Net.row_mine _) (zk (zJ zL zy) zz))) ?_
  refine fA ?_
  refine AT.movT tOk 4 (ty := 68) (t := 35) (d := 31) (g := none) [(true,(Net.row r7.1)),(false,[cB r7.2])] _ kr kr kr (.inl rfl) kr kr kr kr rfl (fun cx => ?_)
  refine aA [(5,[]),(6,[])] 2 [⟨[2,3,8],61,3,33⟩,⟨[3,8],67,8,32⟩] fun cx => ?_
  refine bA 8 ?_
  refine lA 1 ?_
  refine fA ?_
  refine aA [(9,[])] 0 [⟨[2,3,8],61,3,33⟩,⟨[3,8],67,8,32⟩] fun cx => ?_
  exact eE [10,9,8,7,6,3,2] [9,8,6,3,2]
theorem zFN (n : Nat) (x0 : Net) (r15 : Net) (x1 : Event) (r16 : Event) (r17 : Net × Bool) (r14 : Int) (r13 : Int × Net) (r4 : Net × Bool) (er15 : (QF n x0) = some r15) (er16 : (Zy n x1) = some r16) (er17 : (Qa n r15 r16) = some r17) (cx : Cx) : AT Tryz.prog cx (rg Tryz.f4 24) [] 11 [] ⟨104,0,[sB 78 (r14 != r13.1),sI 12 r13.1,sA 9 9 3 0,sB 7 r4.2,sA 6 6 3 0,sA 3 3 2 0,sA 2 2 3 0],[(9,(Net.row r13.2)),(6,(Net.row r4.1)),(3,(Event.row x1)),(2,(CV.frzRow (Net.row x0)))]⟩ (fun s => s = ⟨104,0,[sB 15 r17.2,sA 14 14 3 0,sI 12 r13.1,sA 9 9 3 0,sB 7 r4.2,sA 6 6 3 0],[(14,(Net.row r17.1)),(9,(Net.row r13.2)),(6,(Net.row r4.1))]⟩) := by
 refine aA [(0,[1,3,4,9]),(2,[3,4,9])] 9 [⟨[3,4,9],61,3,82⟩,⟨[1,3,4,9],59,2,80⟩] fun cx => ?_
 refine AT.big2 tOk 1 8 kr (And.intro kr ?_) (And.intro kr ?_)
 ·refine vA [.rd] (zA6 n x0 r15 er15) ?_
  refine fA ?_
  refine AT.big2 tOk 3 8 kr (And.intro kr ?_) (And.intro kr ?_)
  ·refine vA [.rd] (Qc n x1 r16 er16) ?_
   refine fA ?_
   refine AT.big2 tOk 4 8 kr (And.intro kr ?_) (And.intro kr ?_)
   ·refine vA [.rd,.rd] (zAa n r15 r16 r17 er17) ?_
    refine fA ?_
    refine AT.movT tOk 5 (ty := 68) (t := 84) (d := 79) (g := none) [(true,(Net.row r17.1)),(false,[cB r17.2])] _ kr kr kr (.inl rfl) kr kr kr kr rfl (fun cx => ?_)
    refine aA [(6,[]),(7,[])] 3 [⟨[3,4,9],61,3,82⟩,⟨[1,3,4,9],59,2,80⟩] fun cx => ?_
    refine bA 8 ?_
    refine lA 1 ?_
    refine fA ?_
    refine bA 9 ?_
    refine lA 1 ?_
    refine fA ?_
    refine aA [(10,[])] 0 [⟨[3,4,9],61,3,82⟩,⟨[1,3,4,9],59,2,80⟩] fun cx => ?_
    exact eE [15,14,12,9,7,6] [14,9,6]
   ·refine lA 1 ?_
    refine fA ?_
    refine bA 4 ?_
    refine vA [.rd,.rd] (zAa n r15 r16 r17 er17) ?_
    refine fA ?_
    refine AT.movT tOk 5 (ty := 68) (t := 84) (d := 79) (g := none) [(true,(Net.row r17.1)),(false,[cB r17.2])] _ kr kr kr (.inl rfl) kr kr kr kr rfl (fun cx => ?_)
    refine aA [(6,[]),(7,[])] 2 [⟨[3,4,9],61,3,82⟩,⟨[1,3,4,9],59,2,80⟩] fun cx => ?_
    refine bA 9 ?_
    refine lA 1 ?_
    refine fA ?_
    refine aA [(10,[])] 0 [⟨[3,4,9],61,3,82⟩,⟨[1,3,4,9],59,2,80⟩] fun cx => ?_
    exact eE [15,14,12,9,7,6] [14,9,6]
  ·refine lA 1 ?_
   refine fA ?_
   refine bA 3 ?_
   refine vA [.rd] (Qc n x1 r16 er16) ?_
   refine fA ?_
   refine bA 4 ?_
   refine vA [.rd,.rd] (zAa n r15 r16 r17 er17) ?_
   refine fA ?_
   refine AT.movT tOk 5 (ty := 68) (t := 84) (d := 79) (g := none) [(true,(Net.row r17.1)),(false,[cB r17.2])] _ kr kr kr (.inl rfl) kr kr kr kr rfl (fun cx => ?_)
   refine aA [(6,[]),(7,[])] 2 [⟨[3,4,9],61,3,82⟩,⟨[1,3,4,9],59,2,80⟩] fun cx => ?_
   refine bA 9 ?_
   refine lA 1 ?_
   refine fA ?_
   refine aA [(10,[])] 0 [⟨[3,4,9],61,3,82⟩,⟨[1,3,4,9],59,2,80⟩] fun cx => ?_
   exact eE [15,14,12,9,7,6] [14,9,6]
 ·refine lA 1 ?_
  refine fA ?_
  refine bA 1 ?_
  refine vA [.rd] (zA6 n x0 r15 er15) ?_
  refine fA ?_
  refine bA 3 ?_
  refine vA [.rd] (Qc n x1 r16 er16) ?_
  refine fA ?_
  refine bA 4 ?_
  refine vA [.rd,.rd] (zAa n r15 r16 r17 er17) ?_
  refine fA ?_
  refine AT.movT tOk 5 (ty := 68) (t := 84) (d := 79) (g := none) [(true,(Net.row r17.1)),(false,[cB r17.2])] _ kr kr kr (.inl rfl) kr kr kr kr rfl (fun cx => ?_)
  refine aA [(6,[]),(7,[])] 2 [⟨[3,4,9],61,3,82⟩,⟨[1,3,4,9],59,2,80⟩] fun cx => ?_
  refine bA 9 ?_
  refine lA 1 ?_
  refine fA ?_
  refine aA [(10,[])] 0 [⟨[3,4,9],61,3,82⟩,⟨[1,3,4,9],59,2,80⟩] fun cx => ?_
  exact eE [15,14,12,9,7,6] [14,9,6]
theorem zG5 (n : Nat) (x0 : Net) (x1 : Event) (r : Bool) (H : Y3 n x0 x1 = some r) : zD Tryz.prog 4 [.val true (CV.frzRow (Net.row x0)),.val true (CV.frzRow (Event.row x1))] [.val false [.lit (.bool r)]] [] := by
 refine cA Tryz.func4 (.seq (Rg Tryz.f4 0) (.seq (Rg Tryz.f4 1) (.seq (Rg Tryz.f4 2) (.seq (.seq (Rg Tryz.f4 3) (.cond (.tmp 20) (.seq (Rg Tryz.f4 4) .ret) .skip)) (.seq (Rd Tryz.f4 5) (.seq (Rg Tryz.f4 6) (.seq (Rd Tryz.f4 7) (.seq (.seq (Rg Tryz.f4 8) (.cond (.tmp 46) (.seq (Rg Tryz.f4 9) .ret) .skip)) (.seq (.seq (Rd Tryz.f4 10) (.cond (.tmp 51) (.seq (Rg Tryz.f4 11) .ret) .skip)) (.seq (Rg Tryz.f4 12) (.seq (Rg Tryz.f4 13) (.seq (.seq (Rg Tryz.f4 14) (.cond (.tmp 67) (.seq (Rg Tryz.f4 15) .ret) .skip)) (.seq (Rg Tryz.f4 16) (.seq (Rg Tryz.f4 17) (.seq (Rg Tryz.f4 18) (.seq (Rg Tryz.f4 19) (.seq (.seq (Rg Tryz.f4 20) (.cond (.tmp 75) (.seq (Rg Tryz.f4 21) .ret) .skip)) (.seq (.seq (Rg Tryz.f4 22) (.cond (.tmp 78) (.seq (Rg Tryz.f4 23) .ret) .skip)) (.seq (Rd Tryz.f4 24) (.seq (.seq (Rg Tryz.f4 25) (.cond (.tmp 95) (.seq (Rg Tryz.f4 26) .ret) .skip)) (.seq (Rg Tryz.f4 27) (.seq (Rg Tryz.f4 28) (.seq (.seq (Rg Tryz.f4 29) (.cond (.tmp 100) (.seq (Rg Tryz.f4 30) .ret) .skip)) (.seq (.seq (Rg Tryz.f4 31) (.cond (.tmp 103) (.seq (Rg Tryz.f4 32) .ret) .skip)) (.seq (Rg Tryz.f4 33) .ret))))))))))))))))))))))))) [.tmp 4] fun cx => ?_
 unfold Y3 at H
 refine gA 3 12 12 ?_
 refine gA 1 44 12 ?_
 refine rA 2 ?_
 obtain ⟨r1,er1,H⟩ := bs H
 refine vA [.rd,.rd] (zLz n x0 1048576 r1 er1) ?_
 refine uA 1 44 12 ?_
 refine tS ?_
 refine gA 2 1048588 12 ?_
 obtain ⟨h1,H⟩ | ⟨h1,H⟩ := bC H
 ·refine nA h1 ?_
  refine tK ?_
  obtain ⟨r2,er2,H⟩ := bs H
  obtain ⟨r3,er3,H⟩ := bs H
  obtain ⟨r4,er4,H⟩ := bs H
  refine sT ⟨104,0,[sB 20 (decide (r1 < 0)),sA 3 3 2 0,sA 2 2 3 0],[(3,(Event.row x1)),(2,(CV.frzRow (Net.row x0)))]⟩ ?_
  refine Tr.draws mixed 11 kr ⟨104,0,[sB 7 r4.2,sA 6 6 3 0,sA 3 3 2 0,sA 2 2 3 0],[(6,(Net.row r4.1)),(3,(Event.row x1)),(2,(CV.frzRow (Net.row x0)))]⟩ (zFL n x0 r2 x1 r3 r4 r1 er2 er3 er4) ?_
  refine rA 1 ?_
  obtain ⟨r5,er5,H⟩ := bs H
  refine vA [.rd] (zA6 n x0 r5 er5) ?_
  refine uA 2 460 332 ?_
  obtain ⟨r6,er6,H⟩ := bs H
  obtain ⟨r7,er7,H⟩ := bs H
  refine sT ⟨104,0,[sA 8 8 3 0,sB 7 r4.2,sA 6 6 3 0,sA 3 3 2 0,sA 2 2 3 0],[(8,(Net.row r5)),(6,(Net.row r4.1)),(3,(Event.row x1)),(2,(CV.frzRow (Net.row x0)))]⟩ ?_
  refine Tr.draws mixed 10 kr ⟨104,0,[sB 10 r7.2,sA 9 9 3 0,sA 8 8 3 0,sB 7 r4.2,sA 6 6 3 0,sA 3 3 2 0,sA 2 2 3 0],[(9,(Net.row r7.1)),(8,(Net.row r5)),(6,(Net.row r4.1)),(3,(Event.row x1)),(2,(CV.frzRow (Net.row x0)))]⟩ (zFM n x1 r6 r5 r7 r4 x0 er6 er7) ?_
  refine tS ?_
  refine rA 2 ?_
  obtain ⟨r8,er8,H⟩ := bs H
  refine vB [.rd,.rd] [.box 9,.box 6] (zDS n r7.1 r4.1 r8 er8) (.inr (zk (zJ zL zy) zz)) ?_
  refine lA 2 ?_
  refine sL 4398046513100 844 ⟨104,0,[sB 42 (!r8),sB 10 r7.2,sA 9 9 3 0,sA 8 8 3 0,sB 7 r4.2,sA 6 6 3 0,sA 3 3 2 0,sA 2 2 3 0],[(9,(Net.row r7.1)),(8,(Net.row r5)),(6,(Net.row r4.1)),(3,(Event.row x1)),(2,(CV.frzRow (Net.row x0)))]⟩ ?_
  cases h2 : (!r8)
  ·have H := zG h2 H
   refine uA 4 70368744179660 844 ?_
   obtain ⟨h3,H⟩ | ⟨h3,H⟩ := bC H
   ·refine nA h3 ?_
    refine tK ?_
    refine tS ?_
    obtain ⟨r9,er9,H⟩ := bs H
    obtain ⟨r10,er10,H⟩ := bs H
    refine Tr.draws mixed 5 kr ⟨104,0,[sB 51 (!r10),sB 10 r7.2,sA 9 9 3 0,sA 8 8 3 0,sB 7 r4.2,sA 6 6 3 0,sA 3 3 2 0,sA 2 2 3 0],[(9,(Net.row r7.1)),(8,(Net.row r5)),(6,(Net.row r4.1)),(3,(Event.row x1)),(2,(CV.frzRow (Net.row x0)))]⟩ (fun cx => ?_) ?_
    ·refine aA [(0,[3]),(1,[2,3])] 3 [⟨[2,3],59,2,48⟩,⟨[3],67,8,47⟩] fun cx => ?_
     refine bA 2 ?_
     refine vA [.rd] (zA6 n x0 r9 er9) ?_
     refine fA ?_
     refine bA 3 ?_
     refine vB [.rd,.rd] [.box 8] (zDS n r5 r9 r10 er10) (.inr (zk (zJ zL zy) zz)) ?_
     refine fA ?_
     refine aA [(4,[])] 0 [⟨[2,3],59,2,48⟩,⟨[3],67,8,47⟩] fun cx => ?_
     exact eE [51,10,9,8,7,6,3,2] [9,8,6,3,2]
    refine sT ⟨104,0,[sB 51 (!r10),sB 10 r7.2,sA 9 9 3 0,sA 8 8 3 0,sB 7 r4.2,sA 6 6 3 0,sA 3 3 2 0,sA 2 2 3 0],[(9,(Net.row r7.1)),(8,(Net.row r5)),(6,(Net.row r4.1)),(3,(Event.row x1)),(2,(CV.frzRow (Net.row x0)))]⟩ ?_
    cases h4 : (!r10)
    ·have H := zG h4 H
     refine nB_ ?_
     refine tK ?_
     refine gA 1 4044 844 ?_
     refine rA 2 ?_
     obtain ⟨r11,er11,H⟩ := bs H
     refine LAt.callL tOk [.lend,.rd] (f := 29) (av := #[.tmp 52,.tmp 53]) (ats := #[67,3]) (d := (some 54)) (ty := 3) (g := none) kr kr kr [] (zFm n r5 1 r11 er11) kr (.inl rfl) ?_
     refine uA 1 3788 588 ?_
     refine tS ?_
     refine rA 3 ?_
     refine sL 0x2000000000006cc 588 ⟨104,0,[sB 57 (decide (r11.1 < 0)),sB 10 r7.2,sA 9 9 3 0,sB 7 r4.2,sA 6 6 3 0,sA 3 3 2 0,sA 2 2 3 0],[(9,(Net.row r7.1)),(6,(Net.row r4.1)),(3,(Event.row x1)),(2,(CV.frzRow (Net.row x0)))]⟩ ?_
     cases h5 : (decide (r11.1 < 0))
     ·have H := zG h5 H
      refine lA 2 ?_
      obtain ⟨r12,er12,H⟩ := bs H
      refine vB [.rd,.rd] [.box 9,.box 6] (zDS n r7.1 r4.1 r12 er12) (.inr (zk (zJ zL zy) zz)) ?_
      refine lA 3 ?_
      refine sL 0x80000000000006cc 588 ⟨104,0,[sB 63 (!r12),sB 10 r7.2,sA 9 9 3 0,sB 7 r4.2,sA 6 6 3 0,sA 3 3 2 0,sA 2 2 3 0],[(9,(Net.row r7.1)),(6,(Net.row r4.1)),(3,(Event.row x1)),(2,(CV.frzRow (Net.row x0)))]⟩ ?_
      cases h6 : (!r12)
      ·have H := zG h6 H
       refine uA 4 0x800000000000002cc 588 ?_
       refine nA h3 ?_
       refine tK ?_
       refine gA 1 4812 588 ?_
       refine rA 2 ?_
       obtain ⟨r13,er13,H⟩ := bs H
       refine LAt.callL tOk [.lend,.rd] (f := 29) (av := #[.tmp 68,.tmp 69]) (ats := #[67,3]) (d := (some 70)) (ty := 3) (g := none) kr kr kr [] (zFm n r7.1 1 r13 er13) kr (.inl rfl) ?_
       refine uA 1 4812 588 ?_
       refine gA 1 13004 588 ?_
       refine rA 2 ?_
       obtain ⟨r14,er14,H⟩ := bs H
       refine vB [.rd,.rd] [.box 9] (zFi n r13.2 1 r14 er14) (.inr (zk (zJ zL zy) zz)) ?_
       refine uA 1 13004 588 ?_
       refine tS ?_
       refine gA 2 0x80000000000000032cc 588 ?_
       obtain ⟨h7,H⟩ | ⟨h7,H⟩ := bC H
       ·refine nA h7 ?_
        refine tK ?_
        refine tS ?_
        refine gA 3 0x400000000000000012cc 588 ?_
        obtain ⟨h8,H⟩ | ⟨h8,H⟩ := bC H
        ·refine nA h8 ?_
         refine tK ?_
         obtain ⟨r15,er15,H⟩ := bs H
         obtain ⟨r16,er16,H⟩ := bs H
         obtain ⟨r17,er17,H⟩ := bs H
         refine sT ⟨104,0,[sB 78 (r14 != r13.1),sI 12 r13.1,sA 9 9 3 0,sB 7 r4.2,sA 6 6 3 0,sA 3 3 2 0,sA 2 2 3 0],[(9,(Net.row r13.2)),(6,(Net.row r4.1)),(3,(Event.row x1)),(2,(CV.frzRow (Net.row x0)))]⟩ ?_
         refine Tr.draws mixed 11 kr ⟨104,0,[sB 15 r17.2,sA 14 14 3 0,sI 12 r13.1,sA 9 9 3 0,sB 7 r4.2,sA 6 6 3 0],[(14,(Net.row r17.1)),(9,(Net.row r13.2)),(6,(Net.row r4.1))]⟩ (zFN n x0 r15 x1 r16 r17 r14 r13 r4 er15 er16 er17) ?_
         refine tS ?_
         refine rA 2 ?_
         obtain ⟨r18,er18,H⟩ := bs H
         refine vB [.rd,.rd] [.box 14,.box 6] (zDS n r17.1 r4.1 r18 er18) (.inr (zk (zJ zL zy) zz)) ?_
         refine lA 2 ?_
         refine sL 0x80000000000000000009280 512 ⟨104,0,[sB 91 (!r18),sB 15 r17.2,sI 12 r13.1,sA 9 9 3 0,sB 7 r4.2],[(9,(Net.row r13.2))]⟩ ?_
         cases h9 : (!r18)
         ·have H := zG h9 H
          refine uA 4 0x800000000000000000001200 512 ?_
          obtain ⟨h10,H⟩ | ⟨h10,H⟩ := bC H
          ·refine nA h10 ?_
           refine tK ?_
           refine gA 1 12800 512 ?_
           refine rA 2 ?_
           obtain ⟨r19,er19,H⟩ := bs H
           refine vB [.rd,.rd] [.box 9] (zFi n r13.2 1 r19 er19) (.inr (zk (zJ zL zy) zz)) ?_
           refine uA 1 12288 0 ?_
           refine tS ?_
           refine gA 2 0x10000000000000000000003000 0 ?_
           obtain ⟨h11,H⟩ | ⟨h11,H⟩ := bC H
           ·refine nA h11 ?_
            refine tK ?_
            refine tS ?_
            refine gA 3 0x80000000000000000000000000 0 ?_
            obtain ⟨h12,H⟩ | ⟨h12,H⟩ := bC H
            ·refine nA h12 ?_
             refine tK ?_
             refine gA 1 16 0 ?_
             exact te (by obtain rfl := si H; exact fP [(false,[cB true])])
            refine tA h12 ?_
            refine gA 1 16 0 ?_
            exact te (by obtain rfl := si H; exact fP [(false,[cB false])])
           refine tA h11 ?_
           refine gA 1 16 0 ?_
           exact te (by obtain rfl := si H; exact fP [(false,[cB false])])
          refine tA h10 ?_
          refine gA 1 16 0 ?_
          exact te (by obtain rfl := si H; exact fP [(false,[cB false])])
         have H := zH h9 H
         refine uA 4 0x800000000000000000001200 512 ?_
         refine tB_ ?_
         refine gA 1 16 0 ?_
         exact te (by obtain rfl := si H; exact fP [(false,[cB false])])
        refine tA h8 ?_
        refine gA 1 16 0 ?_
        exact te (by obtain rfl := si H; exact fP [(false,[cB false])])
       refine tA h7 ?_
       refine gA 1 16 0 ?_
       exact te (by obtain rfl := si H; exact fP [(false,[cB false])])
      have H := zH h6 H
      refine uA 4 0x800000000000002cc 588 ?_
      refine tB_ ?_
      refine gA 1 16 0 ?_
      exact te (by obtain rfl := si H; exact fP [(false,[cB false])])
     have H := zH h5 H
     refine uA 10 0x800000000000002cc 588 ?_
     refine tB_ ?_
     refine gA 1 16 0 ?_
     exact te (by obtain rfl := si H; exact fP [(false,[cB false])])
    have H := zH h4 H
    refine tB_ ?_
    refine gA 1 16 0 ?_
    exact te (by obtain rfl := si H; exact fP [(false,[cB false])])
   refine tA h3 ?_
   refine gA 1 16 0 ?_
   exact te (by obtain rfl := si H; exact fP [(false,[cB false])])
  have H := zH h2 H
  refine uA 4 70368744179660 844 ?_
  refine tB_ ?_
  refine gA 1 16 0 ?_
  exact te (by obtain rfl := si H; exact fP [(false,[cB false])])
 refine tA h1 ?_
 refine gA 1 16 0 ?_
 exact te (by obtain rfl := si H; exact fP [(false,[cB true])])
end Go.Proofs.YtcegokjpmppdbaaGreat.Tw
