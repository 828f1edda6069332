import Derived.Test.YtibocmoaaahjfaaGreatProg
import Derived.Test.YtibocmoaaahjfaaGreatTlRule
import Derived.Test.YtibocmoaaahjfaaGreatTlU8
import Derived.Test.YtibocmoaaahjfaaGreatTwRS1
import Derived.WalkKit
set_option linter.unusedVariables false
set_option linter.unusedSimpArgs false
set_option maxRecDepth 100000
set_option maxHeartbeats 1000000
namespace Go.Proofs.YtibocmoaaahjfaaGreat.Tw
open Go Go.TL Go.Proofs
def impl_NetOk_J2 (n : Nat) (x0 : Net) : Option (Bool) :=
  ((impl_linksOkF n x0).bind fun r4 => (some r4))
def impl_NetOk_L3 (n : Nat) : Nat → Net → Int → Option ((Unit) ⊕ (Bool))
  | 0,_,_ => none
  | mo5 + 1,x0,y3 => (bif (decide (y3 < (x0.Said.length : Int))) then ((idx x0.Said y3).bind fun v6 => ((impl_inF n v6.Link 0 (IntKind.wrap .i64 ((x0.Links.length : Int) - 1))).bind fun r7 => (bif (!r7) then (some (Sum.inr false)) else ((impl_VecOkF n v6.V).bind fun r8 => (bif (!r8) then (some (Sum.inr false)) else (impl_NetOk_L3 n mo5 x0 (IntKind.wrap .i64 (y3 + 1)))))))) else (some (Sum.inl ())))
def impl_NetOk_J1 (n : Nat) (x0 : Net) : Option (Bool) :=
  ((impl_NetOk_L3 n n x0 0).bind fun o => match o with | .inl _ => (impl_NetOk_J2 n x0) | .inr r => some r)
def impl_NetOk_J6 (n : Nat) (k : (Int → Option ((Unit) ⊕ (Bool)))) (y2 : Int) (y16 : Int) : Option ((Unit) ⊕ (Bool)) :=
  (k (IntKind.wrap .i64 (y2 + 1)))
def impl_NetOk_L7 (n : Nat) : Nat → Bridge → Net → Int → Int → Option ((Int) ⊕ (Bool))
  | 0,_,_,_,_ => none
  | mo17 + 1,v10,x0,y2,y15 => (bif (decide (y15 < (v10.Ports.length : Int))) then ((idx v10.Ports y15).bind fun v18 => (bif v18.Has then ((impl_endsF n x0.Links y2 y15).bind fun r19 => (bif (!r19) then (some (Sum.inr false)) else (impl_NetOk_L7 n mo17 v10 x0 y2 (IntKind.wrap .i64 (y15 + 1))))) else (impl_NetOk_L7 n mo17 v10 x0 y2 (IntKind.wrap .i64 (y15 + 1))))) else (some (Sum.inl y15)))
def impl_NetOk_J5 (n : Nat) (k : (Int → Option ((Unit) ⊕ (Bool)))) (v10 : Bridge) (x0 : Net) (y2 : Int) (y14 : Int) : Option ((Unit) ⊕ (Bool)) :=
  ((impl_NetOk_L7 n n v10 x0 y2 0).bind fun o => match o with | .inl y16 => (impl_NetOk_J6 n k y2 y16) | .inr r => some (Sum.inr r))
def impl_NetOk_L8 (n : Nat) : Nat → Bridge → Net → Int → Int → Option ((Int) ⊕ (Bool))
  | 0,_,_,_,_ => none
  | mo20 + 1,v10,x0,y2,y13 => (bif (decide (y13 < (((x0.Bridges.drop ((0 : Int)).toNat).take (((y2 : Int)).toNat - ((0 : Int)).toNat)).length : Int))) then ((idx ((x0.Bridges.drop ((0 : Int)).toNat).take (((y2 : Int)).toNat - ((0 : Int)).toNat)) y13).bind fun v21 => (bif (v21.Id == v10.Id) then (some (Sum.inr false)) else (impl_NetOk_L8 n mo20 v10 x0 y2 (IntKind.wrap .i64 (y13 + 1))))) else (some (Sum.inl y13)))
def impl_NetOk_L4 (n : Nat) : Nat → Net → Int → Option ((Unit) ⊕ (Bool))
  | 0,_,_ => none
  | mo9 + 1,x0,y2 => (bif (decide (y2 < (x0.Bridges.length : Int))) then ((idx x0.Bridges y2).bind fun v10 => ((impl_BridgeOkF n v10).bind fun r11 => (bif (!r11) then (some (Sum.inr false)) else (bif (decide ((0 : Int) ≤ 0) && (decide ((0 : Int) ≤ y2) && decide ((y2 : Int) ≤ (x0.Bridges.length : Int)))) then ((impl_NetOk_L8 n n v10 x0 y2 0).bind fun o => match o with | .inl y14 => (impl_NetOk_J5 n (fun v => impl_NetOk_L4 n mo9 x0 v) v10 x0 y2 y14) | .inr r => some (Sum.inr r)) else none)))) else (some (Sum.inl ())))
def impl_NetOkF (n : Nat) (x0 : Net) : Option (Bool) :=
  ((impl_inF n (x0.Bridges.length : Int) 1 6).bind fun r1 => (bif (!r1) then (some false) else (bif (decide ((x0.Said.length : Int) > 40)) then (some false) else ((impl_NetOk_L4 n n x0 0).bind fun o => match o with | .inl _ => (impl_NetOk_J1 n x0) | .inr r => some r))))
noncomputable abbrev G68 (k : Nat) := Rg Tryz.f68 k
theorem impl_NetOk (n : Nat) (x0 : Net) (r : Bool) (H : impl_NetOkF n x0 = some r) : LCall Tryz.prog 68 [.val true (CV.frzRow (Net.row x0))] [.val false [.lit (.bool r)]] [] := by
 refine LCall.of_body tOk Tryz.func68 rfl (c := (.seq (G68 0) (.seq (.seq (G68 1) (.cond (.tmp 21) (.seq (G68 2) .ret) .skip)) (.seq (.seq (G68 3) (.block 0 (.loop (.seq (G68 4) (.seq (.cond (.tmp 26) .skip (.exit 0)) (.seq (.block 1 (.seq (G68 5) (.seq (.seq (G68 6) (.cond (.tmp 32) (.seq (G68 7) .ret) .skip)) (.seq (.seq (G68 8) (.block 2 (.loop (.seq (G68 9) (.seq (.cond (.tmp 39) .skip (.exit 2)) (.seq (.block 3 (.seq (G68 10) (.seq (G68 11) (.cond (.tmp 46) (.seq (G68 12) .ret) .skip)))) (G68 13))))))) (.seq (G68 14) (.block 4 (.loop (.seq (G68 15) (.seq (.cond (.tmp 52) .skip (.exit 4)) (.seq (.block 5 (.seq (G68 16) (.seq (G68 17) (.cond (.tmp 65) (.seq (G68 18) .ret) .skip)))) (G68 19))))))))))) (G68 20))))))) (.seq (.seq (G68 21) (.block 6 (.loop (.seq (G68 22) (.seq (.cond (.tmp 72) .skip (.exit 6)) (.seq (.block 7 (.seq (G68 23) (.seq (G68 24) (.cond (.tmp 88) (.seq (G68 25) .ret) .skip)))) (G68 26))))))) (.seq (G68 27) .ret)))))) kr (Nat.le_of_ble_eq_true kr) 0 (rs := [.tmp 2]) rfl [] .nil [(false,[.lit (.bool r)])] [] [] fun cx => ?_
 show Tr _ _ _ ⟨92,0,[sV 0 (CV.frzRow (Net.row x0))],[]⟩ _
 unfold impl_NetOkF at H
 refine tG 2 6 2 kr kr ?_
 refine tS ?_
 refine rU 2 kr ?_
 refine lL 25 3 58 12 13 none ⟨(.slot 12),[],0,false,11,(CV.frzEs (x0.Bridges.map Bridge.row))⟩ (x0.Bridges).length _ kr kr kr kr kr (frz_len _ _) rfl ?_
 obtain ⟨r1,er1,H⟩ := bind_some H
 refine lV [.rd,.rd,.rd] [] (impl_in n (x0.Bridges.length : Int) 1 6 r1 er1) kr kr kr kr (.inl rfl) ?_
 refine lU 2 kr ?_
 refine lT ⟨92,0,[sB 16 (!r1),sB 15 (!r1),sB 14 r1,sI 13 (x0.Bridges.length : Int),sC 12 (cF 11 x0.Bridges Bridge.row),sA 11 1 3 0,sB 2 false,sA 1 1 3 0],[(1,(CV.frzRow (Net.row x0)))]⟩ kr ?_
 cases h1 : (!r1)
 ·have H := bifF h1 H
  refine lU 2 kr ?_
  refine lL 27 3 195 18 19 (some (5,false)) ⟨(.slot 18),[],0,false,7,(CV.frzEs (x0.Said.map Say.row))⟩ (x0.Said).length _ kr kr kr kr kr (frz_len _ _) rfl ?_
  refine uD 2 2097158 2 kr kr ?_
  obtain ⟨h2,H⟩ | ⟨h2,H⟩ := bC H
  ·refine tF h2 kr ?_
   refine tK ?_
   refine tS ?_
   refine rU 2 kr ?_
   refine lL 25 3 58 23 24 none ⟨(.slot 23),[],0,false,11,(CV.frzEs (x0.Bridges.map Bridge.row))⟩ (x0.Bridges).length _ kr kr kr kr kr (frz_len _ _) rfl ?_
   refine uD 1 58720262 2 kr kr ?_
   obtain ⟨o9,eo9,Ho9⟩ := bind_some H
   clear H
   refine Tr.mid (ι := Unit) (fun v => ⟨92,0,[sB 2 false,sA 1 1 3 0],[(1,(CV.frzRow (Net.row x0)))]⟩) (fun v => impl_NetOk_J1 n x0 = some r) ?_ ?_
   ·refine tB ?_
    refine Tr.loop (ι := Nat × (Int)) (fun v => ⟨92,0,[sI 25 v.2,sI 24 (x0.Bridges.length : Int),sC 23 (cF 11 x0.Bridges Bridge.row),sB 2 false,sA 1 1 3 0],[(1,(CV.frzRow (Net.row x0)))]⟩) (fun v => impl_NetOk_L4 n v.1 x0 v.2 = some o9) (fun v => v.1) (n,0) eo9 (St.sub_of [25,24,23,2,1] [1] kr) ?_
    rintro ⟨mo9,y2⟩ H
    have H : impl_NetOk_L4 n mo9 x0 y2 = some o9 := H
    obtain _ | mo9 := mo9
    ·cases (show (none : Option _) = some o9 from H)
    rw [impl_NetOk_L4] at H
    refine tG 1 125829126 2 kr kr ?_
    refine tS ?_
    obtain ⟨h6,H⟩ | ⟨h6,H⟩ := bC H
    ·refine tF h6 kr ?_
     refine Tr.exit ?_
     refine And.intro (fun _ => ?_) (fun h => absurd rfl h)
     obtain rfl := si H
     have H := Ho9
     dsimp only at H
     exact jn () H (sB_ [2,1] [1] kr)
    refine tT h6 kr ?_
    refine tK ?_
    refine tS ?_
    refine tB ?_
    refine rU 1 kr ?_
    obtain ⟨v10,ev10,H⟩ := bind_some H
    refine lI 25 0 23 25 28 none ⟨(.slot 23),[],0,false,11,(CV.frzEs (x0.Bridges.map Bridge.row))⟩ y2 (CV.frzRow (Bridge.row v10)) _ kr kr kr kr rfl (idx_isF ev10) rfl ?_
    refine uD 4 1065353246 18 kr kr ?_
    refine tS ?_
    refine rU 1 kr ?_
    obtain ⟨r11,er11,H⟩ := bind_some H
    refine lV [.rd] [] (impl_BridgeOk n v10 r11 er11) kr kr kr kr (.inl rfl) ?_
    refine uD 1 8581546014 18 kr kr ?_
    obtain ⟨h7,H⟩ | ⟨h7,H⟩ := bC H
    ·refine tF h7 kr ?_
     refine tK ?_
     refine tS ?_
     refine rU 3 kr ?_
     obtain ⟨hg12,H⟩ := guard_some H
     refine LAt.cutG tOk (t := 25) (ty := 25) (e := 58) (x := (.tmp 34)) (lo := none) (hi := (some (.tmp 35))) (d := 36) (g := none) (tI 58) Bridge.row x0.Bridges ⟨(.slot 34),[],0,false,11,(CV.frzEs (x0.Bridges.map Bridge.row))⟩ 0 y2 kr kr kr kr kr kr rfl kr rfl kr kr hg12 ?_
     refine lL 25 3 58 36 37 none ⟨(.slot 36),[],0,false,11,(CV.frzEs (((x0.Bridges.drop ((0 : Int)).toNat).take (((y2 : Int)).toNat - ((0 : Int)).toNat)).map Bridge.row))⟩ (((x0.Bridges.drop ((0 : Int)).toNat).take (((y2 : Int)).toNat - ((0 : Int)).toNat))).length _ kr kr kr kr kr (frz_len _ _) rfl ?_
     refine uD 1 549747425310 18 kr kr ?_
     refine tO ⟨92,0,[sI 38 0,sI 37 (((x0.Bridges.drop ((0 : Int)).toNat).take (((y2 : Int)).toNat - ((0 : Int)).toNat)).length : Int),sC 36 (cF 11 ((x0.Bridges.drop ((0 : Int)).toNat).take (((y2 : Int)).toNat - ((0 : Int)).toNat)) Bridge.row),sI 35 y2,sC 34 (cF 11 x0.Bridges Bridge.row),sA 33 1 3 0,sB 32 (!r11),sB 31 r11,sV 30 (CV.frzRow (Bridge.row v10)),sI 3 y2,sA 4 4 11 0,sV 29 (CV.frzRow (Bridge.row v10)),(28,.fad ((CV.frzRow (Bridge.row v10)))),sI 27 y2,sB 26 (decide (y2 < (x0.Bridges.length : Int))),sI 25 y2,sI 24 (x0.Bridges.length : Int),sC 23 (cF 11 x0.Bridges Bridge.row),sB 2 false,sA 1 1 3 0],[(4,(CV.frzRow (Bridge.row v10))),(1,(CV.frzRow (Net.row x0)))]⟩ kr ?_
     rw [h6]
     rw [h7]
     obtain ⟨o20,eo20,Ho20⟩ := bind_some H
     clear H
     refine Tr.mid (ι := Int) (fun v => ⟨92,0,[sB 39 false,sI 38 v,sI 37 (((x0.Bridges.drop ((0 : Int)).toNat).take (((y2 : Int)).toNat - ((0 : Int)).toNat)).length : Int),sC 36 (cF 11 ((x0.Bridges.drop ((0 : Int)).toNat).take (((y2 : Int)).toNat - ((0 : Int)).toNat)) Bridge.row),sI 35 y2,sC 34 (cF 11 x0.Bridges Bridge.row),sA 33 1 3 0,sB 32 false,sB 31 r11,sV 30 (CV.frzRow (Bridge.row v10)),sI 3 y2,sA 4 4 11 0,sV 29 (CV.frzRow (Bridge.row v10)),(28,.fad ((CV.frzRow (Bridge.row v10)))),sI 27 y2,sB 26 true,sI 25 y2,sI 24 (x0.Bridges.length : Int),sC 23 (cF 11 x0.Bridges Bridge.row),sB 2 false,sA 1 1 3 0],[(4,(CV.frzRow (Bridge.row v10))),(1,(CV.frzRow (Net.row x0)))]⟩) (fun v => impl_NetOk_J5 n (fun v => impl_NetOk_L4 n mo9 x0 v) v10 x0 y2 v = some o9) ?_ ?_
     ·refine tB ?_
      refine Tr.loop (ι := Nat × (Int)) (fun v => ⟨92,0,[sI 38 v.2,sI 37 (((x0.Bridges.drop ((0 : Int)).toNat).take (((y2 : Int)).toNat - ((0 : Int)).toNat)).length : Int),sC 36 (cF 11 ((x0.Bridges.drop ((0 : Int)).toNat).take (((y2 : Int)).toNat - ((0 : Int)).toNat)) Bridge.row),sI 35 y2,sC 34 (cF 11 x0.Bridges Bridge.row),sA 33 1 3 0,sB 32 false,sB 31 r11,sV 30 (CV.frzRow (Bridge.row v10)),sI 3 y2,sA 4 4 11 0,sV 29 (CV.frzRow (Bridge.row v10)),(28,.fad ((CV.frzRow (Bridge.row v10)))),sI 27 y2,sB 26 true,sI 25 y2,sI 24 (x0.Bridges.length : Int),sC 23 (cF 11 x0.Bridges Bridge.row),sB 2 false,sA 1 1 3 0],[(4,(CV.frzRow (Bridge.row v10))),(1,(CV.frzRow (Net.row x0)))]⟩) (fun v => impl_NetOk_L8 n v.1 v10 x0 y2 v.2 = some o20) (fun v => v.1) (n,0) eo20 (St.sub_of [38,37,36,35,34,33,32,31,30,3,4,29,28,27,26,25,24,23,2,1] [4,1] kr) ?_
      rintro ⟨mo20,y13⟩ H
      have H : impl_NetOk_L8 n mo20 v10 x0 y2 y13 = some o20 := H
      obtain _ | mo20 := mo20
      ·cases (show (none : Option _) = some o20 from H)
      rw [impl_NetOk_L8] at H
      refine tG 1 0xffff80001e 18 kr kr ?_
      refine tS ?_
      obtain ⟨h11,H⟩ | ⟨h11,H⟩ := bC H
      ·refine tF h11 kr ?_
       refine Tr.exit ?_
       refine And.intro (fun _ => ?_) (fun h => absurd rfl h)
       obtain rfl := si H
       have H := Ho20
       dsimp only at H
       refine Sb.to ⟨92,0,[sB 39 (decide (y13 < (((x0.Bridges.drop ((0 : Int)).toNat).take (((y2 : Int)).toNat - ((0 : Int)).toNat)).length : Int))),sI 38 y13,sI 37 (((x0.Bridges.drop ((0 : Int)).toNat).take (((y2 : Int)).toNat - ((0 : Int)).toNat)).length : Int),sC 36 (cF 11 ((x0.Bridges.drop ((0 : Int)).toNat).take (((y2 : Int)).toNat - ((0 : Int)).toNat)) Bridge.row),sI 35 y2,sC 34 (cF 11 x0.Bridges Bridge.row),sA 33 1 3 0,sB 32 false,sB 31 r11,sV 30 (CV.frzRow (Bridge.row v10)),sI 3 y2,sA 4 4 11 0,sV 29 (CV.frzRow (Bridge.row v10)),(28,.fad ((CV.frzRow (Bridge.row v10)))),sI 27 y2,sB 26 true,sI 25 y2,sI 24 (x0.Bridges.length : Int),sC 23 (cF 11 x0.Bridges Bridge.row),sB 2 false,sA 1 1 3 0],[(4,(CV.frzRow (Bridge.row v10))),(1,(CV.frzRow (Net.row x0)))]⟩ kr ?_
       rw [h11]
       exact jn y13 H (sB_ [39,38,37,36,35,34,33,32,31,30,3,4,29,28,27,26,25,24,23,2,1] [4,1] kr)
      refine tT h11 kr ?_
      refine tK ?_
      refine tS ?_
      refine tB ?_
      refine tR ?_
      obtain ⟨v21,ev21,H⟩ := bind_some H
      refine lI 25 0 36 38 40 none ⟨(.slot 36),[],0,false,11,(CV.frzEs (((x0.Bridges.drop ((0 : Int)).toNat).take (((y2 : Int)).toNat - ((0 : Int)).toNat)).map Bridge.row))⟩ y13 (CV.frzRow (Bridge.row v21)) _ kr kr kr kr rfl (idx_isF ev21) rfl ?_
      refine uD 3 4398038122590 82 kr kr ?_
      refine tG 5 0x7fffff80005e 82 kr kr ?_
      obtain ⟨h12,H⟩ | ⟨h12,H⟩ := bC H
      ·refine tF h12 kr ?_
       refine tK ?_
       refine tE 2 0xffffff80005e 82 kr kr ?_
       exact jn (mo20,(w6 (y13 + 1))) H (sM mo20 [38,37,36,35,34,33,32,31,30,3,4,29,28,27,26,25,24,23,2,1] [4,1] kr)
      refine tT h12 kr ?_
      refine tG 1 0x7fffff80005e 82 kr kr ?_
      refine te ?_
      obtain rfl := si H
      have H := Ho20
      dsimp only at H
      obtain rfl := si H
      have H := Ho9
      dsimp only at H
      obtain rfl := si H
      exact fO [(false,[cB false])] kr rfl rfl
     rintro y14 H
     have H : (impl_NetOk_J5 n (fun v => impl_NetOk_L4 n mo9 x0 v) v10 x0 y2 y14) = some o9 := H
     unfold impl_NetOk_J5 at H
     refine rU 2 kr ?_
     refine lL 52 3 182 49 50 none ⟨(.slot 49),[],0,false,8,(CV.frzEs (v10.Ports.map Pt.row))⟩ (v10.Ports).length _ kr kr kr kr kr (frz_len _ _) rfl ?_
     refine uD 1 0xf00ffff80001e 18 kr kr ?_
     obtain ⟨o17,eo17,Ho17⟩ := bind_some H
     clear H
     refine Tr.mid (ι := Int) (fun v => ⟨92,0,[sB 52 false,sI 51 v,sI 50 (v10.Ports.length : Int),sC 49 (cF 8 v10.Ports Pt.row),sA 48 4 11 2,sB 39 false,sI 38 y14,sI 37 (((x0.Bridges.drop ((0 : Int)).toNat).take (((y2 : Int)).toNat - ((0 : Int)).toNat)).length : Int),sC 36 (cF 11 ((x0.Bridges.drop ((0 : Int)).toNat).take (((y2 : Int)).toNat - ((0 : Int)).toNat)) Bridge.row),sI 35 y2,sC 34 (cF 11 x0.Bridges Bridge.row),sA 33 1 3 0,sB 32 false,sB 31 r11,sV 30 (CV.frzRow (Bridge.row v10)),sI 3 y2,sA 4 4 11 0,sV 29 (CV.frzRow (Bridge.row v10)),(28,.fad ((CV.frzRow (Bridge.row v10)))),sI 27 y2,sB 26 true,sI 25 y2,sI 24 (x0.Bridges.length : Int),sC 23 (cF 11 x0.Bridges Bridge.row),sB 2 false,sA 1 1 3 0],[(4,(CV.frzRow (Bridge.row v10))),(1,(CV.frzRow (Net.row x0)))]⟩) (fun v => impl_NetOk_J6 n (fun v => impl_NetOk_L4 n mo9 x0 v) y2 v = some o9) ?_ ?_
     ·refine tB ?_
      refine Tr.loop (ι := Nat × (Int)) (fun v => ⟨92,0,[sI 51 v.2,sI 50 (v10.Ports.length : Int),sC 49 (cF 8 v10.Ports Pt.row),sA 48 4 11 2,sB 39 false,sI 38 y14,sI 37 (((x0.Bridges.drop ((0 : Int)).toNat).take (((y2 : Int)).toNat - ((0 : Int)).toNat)).length : Int),sC 36 (cF 11 ((x0.Bridges.drop ((0 : Int)).toNat).take (((y2 : Int)).toNat - ((0 : Int)).toNat)) Bridge.row),sI 35 y2,sC 34 (cF 11 x0.Bridges Bridge.row),sA 33 1 3 0,sB 32 false,sB 31 r11,sV 30 (CV.frzRow (Bridge.row v10)),sI 3 y2,sA 4 4 11 0,sV 29 (CV.frzRow (Bridge.row v10)),(28,.fad ((CV.frzRow (Bridge.row v10)))),sI 27 y2,sB 26 true,sI 25 y2,sI 24 (x0.Bridges.length : Int),sC 23 (cF 11 x0.Bridges Bridge.row),sB 2 false,sA 1 1 3 0],[(4,(CV.frzRow (Bridge.row v10))),(1,(CV.frzRow (Net.row x0)))]⟩) (fun v => impl_NetOk_L7 n v.1 v10 x0 y2 v.2 = some o17) (fun v => v.1) (n,0) eo17 (St.sub_of [51,50,49,48,39,38,37,36,35,34,33,32,31,30,3,4,29,28,27,26,25,24,23,2,1] [4,1] kr) ?_
      rintro ⟨mo17,y15⟩ H
      have H : impl_NetOk_L7 n mo17 v10 x0 y2 y15 = some o17 := H
      obtain _ | mo17 := mo17
      ·cases (show (none : Option _) = some o17 from H)
      rw [impl_NetOk_L7] at H
      refine tG 1 8726823781269534 18 kr kr ?_
      refine tS ?_
      obtain ⟨h8,H⟩ | ⟨h8,H⟩ := bC H
      ·refine tF h8 kr ?_
       refine Tr.exit ?_
       refine And.intro (fun _ => ?_) (fun h => absurd rfl h)
       obtain rfl := si H
       have H := Ho17
       dsimp only at H
       refine Sb.to ⟨92,0,[sB 52 (decide (y15 < (v10.Ports.length : Int))),sI 51 y15,sI 50 (v10.Ports.length : Int),sC 49 (cF 8 v10.Ports Pt.row),sA 48 4 11 2,sB 39 false,sI 38 y14,sI 37 (((x0.Bridges.drop ((0 : Int)).toNat).take (((y2 : Int)).toNat - ((0 : Int)).toNat)).length : Int),sC 36 (cF 11 ((x0.Bridges.drop ((0 : Int)).toNat).take (((y2 : Int)).toNat - ((0 : Int)).toNat)) Bridge.row),sI 35 y2,sC 34 (cF 11 x0.Bridges Bridge.row),sA 33 1 3 0,sB 32 false,sB 31 r11,sV 30 (CV.frzRow (Bridge.row v10)),sI 3 y2,sA 4 4 11 0,sV 29 (CV.frzRow (Bridge.row v10)),(28,.fad ((CV.frzRow (Bridge.row v10)))),sI 27 y2,sB 26 true,sI 25 y2,sI 24 (x0.Bridges.length : Int),sC 23 (cF 11 x0.Bridges Bridge.row),sB 2 false,sA 1 1 3 0],[(4,(CV.frzRow (Bridge.row v10))),(1,(CV.frzRow (Net.row x0)))]⟩ kr ?_
       rw [h8]
       exact jn y15 H (sB_ [52,51,50,49,48,39,38,37,36,35,34,33,32,31,30,3,4,29,28,27,26,25,24,23,2,1] [4,1] kr)
      refine tT h8 kr ?_
      refine tK ?_
      refine tS ?_
      refine tB ?_
      refine rU 1 kr ?_
      obtain ⟨v18,ev18,H⟩ := bind_some H
      refine lI 52 0 49 51 54 none ⟨(.slot 49),[],0,false,8,(CV.frzEs (v10.Ports.map Pt.row))⟩ y15 (Pt.row v18) _ kr kr kr kr rfl (idx_isF ev18) rfl ?_
      refine uD 4 0xff00ffff80019e 274 kr kr ?_
      refine rU 3 kr ?_
      refine lT ⟨92,0,[sB 58 v18.Has,sB 57 v18.Has,sA 56 8 8 2,sI 7 y15,sA 8 8 8 0,sV 55 (Pt.row v18),(54,.fad ((Pt.row v18))),sI 53 y15,sB 52 (decide (y15 < (v10.Ports.length : Int))),sI 51 y15,sI 50 (v10.Ports.length : Int),sC 49 (cF 8 v10.Ports Pt.row),sA 48 4 11 2,sB 39 false,sI 38 y14,sI 37 (((x0.Bridges.drop ((0 : Int)).toNat).take (((y2 : Int)).toNat - ((0 : Int)).toNat)).length : Int),sC 36 (cF 11 ((x0.Bridges.drop ((0 : Int)).toNat).take (((y2 : Int)).toNat - ((0 : Int)).toNat)) Bridge.row),sI 35 y2,sC 34 (cF 11 x0.Bridges Bridge.row),sA 33 1 3 0,sB 32 false,sB 31 r11,sV 30 (CV.frzRow (Bridge.row v10)),sI 3 y2,sA 4 4 11 0,sV 29 (CV.frzRow (Bridge.row v10)),(28,.fad ((CV.frzRow (Bridge.row v10)))),sI 27 y2,sB 26 true,sI 25 y2,sI 24 (x0.Bridges.length : Int),sC 23 (cF 11 x0.Bridges Bridge.row),sB 2 false,sA 1 1 3 0],[(8,(Pt.row v18)),(4,(CV.frzRow (Bridge.row v10))),(1,(CV.frzRow (Net.row x0)))]⟩ kr ?_
      cases h9 : v18.Has
      ·have H := bifF h9 H
       refine uD 7 0x3ffff00ffff80019e 274 kr kr ?_
       refine tf kr ?_
       refine tK ?_
       refine tE 2 0x7ffff00ffff80019e 274 kr kr ?_
       exact jn (mo17,(w6 (y15 + 1))) H (sM mo17 [51,50,49,48,39,38,37,36,35,34,33,32,31,30,3,4,29,28,27,26,25,24,23,2,1] [4,1] kr)
      have H := bifT h9 H
      refine lU 4 kr ?_
      obtain ⟨r19,er19,H⟩ := bind_some H
      refine lV [.rd,.rd,.rd] [] (impl_ends n x0.Links y2 y15 r19 er19) kr kr kr kr (.inl rfl) ?_
      refine uD 2 0x3ffff00ffff80019e 274 kr kr ?_
      obtain ⟨h10,H⟩ | ⟨h10,H⟩ := bC H
      ·refine tF h10 kr ?_
       refine tK ?_
       refine tE 2 0x7ffff00ffff80019e 274 kr kr ?_
       exact jn (mo17,(w6 (y15 + 1))) H (sM mo17 [51,50,49,48,39,38,37,36,35,34,33,32,31,30,3,4,29,28,27,26,25,24,23,2,1] [4,1] kr)
      refine tT h10 kr ?_
      refine tG 1 0x3ffff00ffff80019e 274 kr kr ?_
      refine te ?_
      obtain rfl := si H
      have H := Ho17
      dsimp only at H
      obtain rfl := si H
      have H := Ho9
      dsimp only at H
      obtain rfl := si H
      exact fO [(false,[cB false])] kr rfl rfl
     rintro y16 H
     have H : (impl_NetOk_J6 n (fun v => impl_NetOk_L4 n mo9 x0 v) y2 y16) = some o9 := H
     unfold impl_NetOk_J6 at H
     refine tE 2 0x8001f00ffff80001e 18 kr kr ?_
     exact jn (mo9,(w6 (y2 + 1))) H (sM mo9 [25,24,23,2,1] [1] kr)
    refine tT h7 kr ?_
    refine tG 1 8581546014 18 kr kr ?_
    refine te ?_
    obtain rfl := si H
    have H := Ho9
    dsimp only at H
    obtain rfl := si H
    exact fO [(false,[cB false])] kr rfl rfl
   rintro _ H
   have H : (impl_NetOk_J1 n x0) = some r := H
   unfold impl_NetOk_J1 at H
   refine tS ?_
   refine rU 2 kr ?_
   refine lL 27 3 195 69 70 none ⟨(.slot 69),[],0,false,7,(CV.frzEs (x0.Said.map Say.row))⟩ (x0.Said).length _ kr kr kr kr kr (frz_len _ _) rfl ?_
   refine uD 1 0xe00000000000000006 2 kr kr ?_
   obtain ⟨o5,eo5,Ho5⟩ := bind_some H
   clear H
   refine Tr.mid (ι := Unit) (fun v => ⟨92,0,[sB 2 false,sA 1 1 3 0],[(1,(CV.frzRow (Net.row x0)))]⟩) (fun v => impl_NetOk_J2 n x0 = some r) ?_ ?_
   ·refine tB ?_
    refine Tr.loop (ι := Nat × (Int)) (fun v => ⟨92,0,[sI 71 v.2,sI 70 (x0.Said.length : Int),sC 69 (cF 7 x0.Said Say.row),sB 2 false,sA 1 1 3 0],[(1,(CV.frzRow (Net.row x0)))]⟩) (fun v => impl_NetOk_L3 n v.1 x0 v.2 = some o5) (fun v => v.1) (n,0) eo5 (St.sub_of [71,70,69,2,1] [1] kr) ?_
    rintro ⟨mo5,y3⟩ H
    have H : impl_NetOk_L3 n mo5 x0 y3 = some o5 := H
    obtain _ | mo5 := mo5
    ·cases (show (none : Option _) = some o5 from H)
    rw [impl_NetOk_L3] at H
    refine tG 1 0x1e00000000000000006 2 kr kr ?_
    refine tS ?_
    obtain ⟨h3,H⟩ | ⟨h3,H⟩ := bC H
    ·refine tF h3 kr ?_
     refine Tr.exit ?_
     refine And.intro (fun _ => ?_) (fun h => absurd rfl h)
     obtain rfl := si H
     have H := Ho5
     dsimp only at H
     exact jn () H (sB_ [2,1] [1] kr)
    refine tT h3 kr ?_
    refine tK ?_
    refine tS ?_
    refine tB ?_
    refine tR ?_
    obtain ⟨v6,ev6,H⟩ := bind_some H
    refine lI 27 0 69 71 73 none ⟨(.slot 69),[],0,false,7,(CV.frzEs (x0.Said.map Say.row))⟩ y3 (Say.row v6) _ kr kr kr kr rfl (idx_isF ev6) rfl ?_
    refine uD 3 0x7e00000000000000406 1026 kr kr ?_
    refine rU 4 kr ?_
    refine lL 26 3 126 78 79 none ⟨(.slot 78),[],0,false,4,(CV.frzEs (x0.Links.map Link.row))⟩ (x0.Links).length _ kr kr kr kr kr (frz_len _ _) rfl ?_
    refine lU 1 kr ?_
    obtain ⟨r7,er7,H⟩ := bind_some H
    refine lV [.rd,.rd,.rd] [] (impl_in n v6.Link 0 (w6 ((x0.Links.length : Int) - 1)) r7 er7) kr kr kr kr (.inl rfl) ?_
    refine lU 2 kr ?_
    refine lT ⟨92,0,[sB 83 (!r7),sB 82 (!r7),sB 81 r7,sI 80 (w6 ((x0.Links.length : Int) - 1)),sI 79 (x0.Links.length : Int),sC 78 (cF 4 x0.Links Link.row),sA 77 1 3 1,sI 76 v6.Link,sA 75 10 7 0,sA 10 10 7 0,sV 74 (Say.row v6),(73,.fad ((Say.row v6))),sB 72 (decide (y3 < (x0.Said.length : Int))),sI 71 y3,sI 70 (x0.Said.length : Int),sC 69 (cF 7 x0.Said Say.row),sB 2 false,sA 1 1 3 0],[(10,(Say.row v6)),(1,(CV.frzRow (Net.row x0)))]⟩ kr ?_
    cases h4 : (!r7)
    ·have H := bifF h4 H
     refine lU 2 kr ?_
     obtain ⟨r8,er8,H⟩ := bind_some H
     refine lV [.rd] [] (impl_VecOk n v6.V r8 er8) kr kr kr kr (.inl rfl) ?_
     refine uD 2 0x1ffffe00000000000000406 1026 kr kr ?_
     obtain ⟨h5,H⟩ | ⟨h5,H⟩ := bC H
     ·refine tF h5 kr ?_
      refine tK ?_
      refine tE 2 0x3ffffe00000000000000406 1026 kr kr ?_
      exact jn (mo5,(w6 (y3 + 1))) H (sM mo5 [71,70,69,2,1] [1] kr)
     refine tT h5 kr ?_
     refine tG 1 0x1ffffe00000000000000406 1026 kr kr ?_
     refine te ?_
     obtain rfl := si H
     have H := Ho5
     dsimp only at H
     obtain rfl := si H
     exact fO [(false,[cB false])] kr rfl rfl
    have H := bifT h4 H
    refine uD 5 0x1ffffe00000000000000406 1026 kr kr ?_
    refine tt kr ?_
    refine tG 1 0x1ffffe00000000000000406 1026 kr kr ?_
    refine te ?_
    obtain rfl := si H
    have H := Ho5
    dsimp only at H
    obtain rfl := si H
    exact fO [(false,[cB false])] kr rfl rfl
   rintro _ H
   have H : (impl_NetOk_J2 n x0) = some r := H
   unfold impl_NetOk_J2 at H
   refine rU 1 kr ?_
   obtain ⟨r4,er4,H⟩ := bind_some H
   refine lV [.rd] [] (impl_linksOk n x0 r4 er4) kr kr kr kr (.inl rfl) ?_
   refine uD 1 4 0 kr kr ?_
   exact te (by obtain rfl := si H; exact fO [(false,[cB r4])] kr rfl rfl)
  refine tT h2 kr ?_
  refine tG 1 6 2 kr kr ?_
  exact te (by obtain rfl := si H; exact fO [(false,[cB false])] kr rfl rfl)
 have H := bifT h1 H
 refine uD 5 2097158 2 kr kr ?_
 refine tt kr ?_
 refine tG 1 6 2 kr kr ?_
 exact te (by obtain rfl := si H; exact fO [(false,[cB false])] kr rfl rfl)
def impl_LinkUpF (n : Nat) (x0 : Net) (x1 : Int) : Option (Bool) :=
  ((impl_inF n x1 0 (IntKind.wrap .i64 ((x0.Links.length : Int) - 1))).bind fun r1 => (bif (!r1) then (some false) else ((idx x0.Links x1).bind fun v2 => ((idx x0.Links x1).bind fun v3 => ((impl_portAtF n x0 v2.A v3.P).bind fun r4 => ((idx x0.Links x1).bind fun v5 => ((idx x0.Links x1).bind fun v6 => ((impl_portAtF n x0 v5.B v6.Q).bind fun r7 => (bif r4.2 then (bif r7.2 then (bif r4.1.Up then (some r7.1.Up) else (some false)) else (some false)) else (some false))))))))))
theorem impl_LinkUp (n : Nat) (x0 : Net) (x1 : Int) (r : Bool) (H : impl_LinkUpF n x0 x1 = some r) : LCall Tryz.prog 76 [.val true (CV.frzRow (Net.row x0)),.val false [.lit (.int .i64 x1)]] [.val false [.lit (.bool r)]] [] := by
 refine LCall.of_body tOk Tryz.func76 rfl (c := (.seq (Rg Tryz.f76 0) (.seq (.seq (Rg Tryz.f76 1) (.cond (.tmp 15) (.seq (Rg Tryz.f76 2) .ret) .skip)) (.seq (Rd Tryz.f76 3) (.seq (Rd Tryz.f76 4) (.seq (Rg Tryz.f76 5) .ret)))))) kr (Nat.le_of_ble_eq_true kr) 0 (rs := [.tmp 4]) rfl [] .nil [(false,[.lit (.bool r)])] [] [] fun cx => ?_
 show Tr _ _ _ ⟨62,0,[sV 0 (CV.frzRow (Net.row x0)),sI 1 x1],[]⟩ _
 unfold impl_LinkUpF at H
 refine tG 2 6 4 kr kr ?_
 refine tS ?_
 refine rU 3 kr ?_
 refine lL 26 3 126 11 12 none ⟨(.slot 11),[],0,false,4,(CV.frzEs (x0.Links.map Link.row))⟩ (x0.Links).length _ kr kr kr kr kr (frz_len _ _) rfl ?_
 refine lU 1 kr ?_
 obtain ⟨r1,er1,H⟩ := bind_some H
 refine lV [.rd,.rd,.rd] [] (impl_in n x1 0 (w6 ((x0.Links.length : Int) - 1)) r1 er1) kr kr kr kr (.inl rfl) ?_
 refine uD 1 32774 4 kr kr ?_
 obtain ⟨h1,H⟩ | ⟨h1,H⟩ := bC H
 ·refine tF h1 kr ?_
  refine tK ?_
  obtain ⟨v2,ev2,H⟩ := bind_some H
  obtain ⟨v3,ev3,H⟩ := bind_some H
  obtain ⟨r4,er4,H⟩ := bind_some H
  refine Tr.draws mixed 20 kr ⟨62,0,[sB 6 r4.2,sA 5 5 8 0,sA 2 2 3 0,sI 1 x1],[(5,(Pt.row r4.1)),(2,(CV.frzRow (Net.row x0)))]⟩ (fun cx => ?_) ?_
  ·refine aU [(0,[13,18]),(1,[]),(2,[13,18]),(3,[])] 16 [⟨[13,18],26,18,19⟩,⟨[13,18],29,2,17⟩] [3,2,1,0] rfl kr (fun cx => ?_)
   refine aI 4 26 0 19 20 21 none ⟨(.box 2),[(0,0)],1,false,4,(CV.frzEs (x0.Links.map Link.row))⟩ x1 (Link.row v2) _ kr kr kr kr kr kr rfl (idx_isF ev2) rfl (fun cx => ?_)
   refine aU [(5,[]),(6,[]),(7,[]),(8,[13,18]),(9,[])] 10 [⟨[13,18],26,24,25⟩,⟨[13,18],26,18,19⟩,⟨[13,18],29,2,17⟩] [9,8,7,6,5,4,3,2,1,0] rfl kr (fun cx => ?_)
   refine aI 10 26 0 25 26 27 none ⟨(.box 2),[(0,0)],1,false,4,(CV.frzEs (x0.Links.map Link.row))⟩ x1 (Link.row v3) _ kr kr kr kr kr kr rfl (idx_isF ev3) rfl (fun cx => ?_)
   refine aU [(11,[]),(12,[])] 7 [⟨[13,18],26,24,25⟩,⟨[13,18],26,18,19⟩,⟨[13,18],29,2,17⟩] [12,11,10,9,8,7,6,5,4,3,2,1,0] rfl kr (fun cx => ?_)
   refine AT.big2 tOk 13 17 kr (And.intro kr ?_) (And.intro kr ?_)
   ·refine lV [.rd,.rd,.rd] [] (impl_portAt n x0 v2.A v3.P r4 er4) kr kr kr kr (.inl rfl) ?_
    refine lF kr kr kr ?_
    refine AT.movT tOk 14 (ty := 202) (t := 30) (d := 16) (g := none) [(true,(Pt.row r4.1)),(false,[cB r4.2])] _ kr kr kr (.inl rfl) kr kr kr kr rfl (fun cx => ?_)
    refine aU [(15,[]),(16,[])] 3 [⟨[13,18],26,24,25⟩,⟨[13,18],26,18,19⟩,⟨[13,18],29,2,17⟩] [16,15,14,13,12,11,10,9,8,7,6,5,4,3,2,1,0] rfl kr (fun cx => ?_)
    refine b1 17 kr kr ?_
    refine lU 1 kr ?_
    refine lF kr kr kr ?_
    refine b1 18 kr kr ?_
    refine lU 1 kr ?_
    refine lF kr kr kr ?_
    refine aU [(19,[])] 0 [⟨[13,18],26,24,25⟩,⟨[13,18],26,18,19⟩,⟨[13,18],29,2,17⟩] [19,18,17,16,15,14,13,12,11,10,9,8,7,6,5,4,3,2,1,0] rfl kr (fun cx => ?_)
    exact AT.done [6,5,2,1] [5,2] _ kr kr rfl
   ·refine lU 1 kr ?_
    refine lF kr kr kr ?_
    refine b1 13 kr kr ?_
    refine lV [.rd,.rd,.rd] [] (impl_portAt n x0 v2.A v3.P r4 er4) kr kr kr kr (.inl rfl) ?_
    refine lF kr kr kr ?_
    refine AT.movT tOk 14 (ty := 202) (t := 30) (d := 16) (g := none) [(true,(Pt.row r4.1)),(false,[cB r4.2])] _ kr kr kr (.inl rfl) kr kr kr kr rfl (fun cx => ?_)
    refine aU [(15,[]),(16,[])] 2 [⟨[13,18],26,24,25⟩,⟨[13,18],26,18,19⟩,⟨[13,18],29,2,17⟩] [16,15,14,13,17,12,11,10,9,8,7,6,5,4,3,2,1,0] rfl kr (fun cx => ?_)
    refine b1 18 kr kr ?_
    refine lU 1 kr ?_
    refine lF kr kr kr ?_
    refine aU [(19,[])] 0 [⟨[13,18],26,24,25⟩,⟨[13,18],26,18,19⟩,⟨[13,18],29,2,17⟩] [19,18,16,15,14,13,17,12,11,10,9,8,7,6,5,4,3,2,1,0] rfl kr (fun cx => ?_)
    exact AT.done [6,5,2,1] [5,2] _ kr kr rfl
  obtain ⟨v5,ev5,H⟩ := bind_some H
  obtain ⟨v6,ev6,H⟩ := bind_some H
  obtain ⟨r7,er7,H⟩ := bind_some H
  refine Tr.draws mixed 20 kr ⟨62,0,[sB 8 r7.2,sA 7 7 8 0,sB 6 r4.2,sA 5 5 8 0],[(7,(Pt.row r7.1)),(5,(Pt.row r4.1))]⟩ (fun cx => ?_) ?_
  ·refine aU [(0,[13,18]),(1,[]),(2,[13,18]),(3,[])] 16 [⟨[13,18],26,35,36⟩,⟨[13,18],29,2,34⟩] [3,2,1,0] rfl kr (fun cx => ?_)
   refine aI 4 26 0 36 37 38 none ⟨(.box 2),[(0,0)],1,false,4,(CV.frzEs (x0.Links.map Link.row))⟩ x1 (Link.row v5) _ kr kr kr kr kr kr rfl (idx_isF ev5) rfl (fun cx => ?_)
   refine aU [(5,[]),(6,[]),(7,[]),(8,[13,18]),(9,[])] 10 [⟨[13,18],26,41,42⟩,⟨[13,18],26,35,36⟩,⟨[13,18],29,2,34⟩] [9,8,7,6,5,4,3,2,1,0] rfl kr (fun cx => ?_)
   refine aI 10 26 0 42 43 44 none ⟨(.box 2),[(0,0)],1,false,4,(CV.frzEs (x0.Links.map Link.row))⟩ x1 (Link.row v6) _ kr kr kr kr kr kr rfl (idx_isF ev6) rfl (fun cx => ?_)
   refine aU [(11,[]),(12,[])] 7 [⟨[13,18],26,41,42⟩,⟨[13,18],26,35,36⟩,⟨[13,18],29,2,34⟩] [12,11,10,9,8,7,6,5,4,3,2,1,0] rfl kr (fun cx => ?_)
   refine AT.big2 tOk 13 17 kr (And.intro kr ?_) (And.intro kr ?_)
   ·refine lV [.rd,.rd,.rd] [] (impl_portAt n x0 v5.B v6.Q r7 er7) kr kr kr kr (.inl rfl) ?_
    refine lF kr kr kr ?_
    refine AT.movT tOk 14 (ty := 202) (t := 47) (d := 33) (g := none) [(true,(Pt.row r7.1)),(false,[cB r7.2])] _ kr kr kr (.inl rfl) kr kr kr kr rfl (fun cx => ?_)
    refine aU [(15,[]),(16,[])] 3 [⟨[13,18],26,41,42⟩,⟨[13,18],26,35,36⟩,⟨[13,18],29,2,34⟩] [16,15,14,13,12,11,10,9,8,7,6,5,4,3,2,1,0] rfl kr (fun cx => ?_)
    refine b1 17 kr kr ?_
    refine lU 1 kr ?_
    refine lF kr kr kr ?_
    refine b1 18 kr kr ?_
    refine lU 1 kr ?_
    refine lF kr kr kr ?_
    refine aU [(19,[])] 0 [⟨[13,18],26,41,42⟩,⟨[13,18],26,35,36⟩,⟨[13,18],29,2,34⟩] [19,18,17,16,15,14,13,12,11,10,9,8,7,6,5,4,3,2,1,0] rfl kr (fun cx => ?_)
    exact AT.done [8,7,6,5] [7,5] _ kr kr rfl
   ·refine lU 1 kr ?_
    refine lF kr kr kr ?_
    refine b1 13 kr kr ?_
    refine lV [.rd,.rd,.rd] [] (impl_portAt n x0 v5.B v6.Q r7 er7) kr kr kr kr (.inl rfl) ?_
    refine lF kr kr kr ?_
    refine AT.movT tOk 14 (ty := 202) (t := 47) (d := 33) (g := none) [(true,(Pt.row r7.1)),(false,[cB r7.2])] _ kr kr kr (.inl rfl) kr kr kr kr rfl (fun cx => ?_)
    refine aU [(15,[]),(16,[])] 2 [⟨[13,18],26,41,42⟩,⟨[13,18],26,35,36⟩,⟨[13,18],29,2,34⟩] [16,15,14,13,17,12,11,10,9,8,7,6,5,4,3,2,1,0] rfl kr (fun cx => ?_)
    refine b1 18 kr kr ?_
    refine lU 1 kr ?_
    refine lF kr kr kr ?_
    refine aU [(19,[])] 0 [⟨[13,18],26,41,42⟩,⟨[13,18],26,35,36⟩,⟨[13,18],29,2,34⟩] [19,18,16,15,14,13,17,12,11,10,9,8,7,6,5,4,3,2,1,0] rfl kr (fun cx => ?_)
    exact AT.done [8,7,6,5] [7,5] _ kr kr rfl
  refine rU 2 kr ?_
  refine lT ⟨62,0,[sB 51 r4.2,sB 50 r4.2,sB 8 r7.2,sA 7 7 8 0,sB 6 r4.2,sA 5 5 8 0],[(7,(Pt.row r7.1)),(5,(Pt.row r4.1))]⟩ kr ?_
  cases h2 : r4.2
  ·have H := bifF h2 H
   refine uD 11 16 0 kr kr ?_
   exact te (by obtain rfl := si H; exact fO [(false,[cB false])] kr rfl rfl)
  have H := bifT h2 H
  refine lU 3 kr ?_
  refine lT ⟨62,0,[sB 54 r7.2,sB 53 r7.2,sB 52 r7.2,sB 51 true,sB 50 true,sB 8 r7.2,sA 7 7 8 0,sB 6 true,sA 5 5 8 0],[(7,(Pt.row r7.1)),(5,(Pt.row r4.1))]⟩ kr ?_
  cases h3 : r7.2
  ·have H := bifF h3 H
   refine uD 8 16 0 kr kr ?_
   exact te (by obtain rfl := si H; exact fO [(false,[cB false])] kr rfl rfl)
  have H := bifT h3 H
  refine lU 4 kr ?_
  refine lT ⟨62,0,[sB 58 r4.1.Up,sB 57 r4.1.Up,sB 56 r4.1.Up,sA 55 5 8 0,sB 54 true,sB 53 true,sB 52 true,sB 51 true,sB 50 true,sB 8 true,sA 7 7 8 0,sB 6 true,sA 5 5 8 0],[(7,(Pt.row r7.1)),(5,(Pt.row r4.1))]⟩ kr ?_
  cases h4 : r4.1.Up
  ·have H := bifF h4 H
   refine uD 4 16 0 kr kr ?_
   exact te (by obtain rfl := si H; exact fO [(false,[cB false])] kr rfl rfl)
  have H := bifT h4 H
  refine uD 4 16 0 kr kr ?_
  exact te (by obtain rfl := si H; exact fO [(false,[cB r7.1.Up])] kr rfl rfl)
 refine tT h1 kr ?_
 refine tG 1 16 0 kr kr ?_
 exact te (by obtain rfl := si H; exact fO [(false,[cB false])] kr rfl rfl)
def impl_StepVecF (n : Nat) (x0 : Vec) (x1 : Int) : Option (Vec × Bool) :=
  ((impl_VecOkF n x0).bind fun r1 => (bif (!r1) then (some (x0,false)) else ((impl_inF n x1 1 1000).bind fun r2 => (bif (!r2) then (some (x0,false)) else ((impl_VecOkF n (⟨x0.Root,(IntKind.wrap .i64 (x0.Cost + x1)),(IntKind.wrap .i64 (x0.Hops + 1)),x0.Bridge,x0.Port⟩ : Vec)).bind fun r3 => (bif (!r3) then (some (x0,false)) else (some ((⟨x0.Root,(IntKind.wrap .i64 (x0.Cost + x1)),(IntKind.wrap .i64 (x0.Hops + 1)),x0.Bridge,x0.Port⟩ : Vec),true))))))))
noncomputable abbrev G256 (k : Nat) := Rg Tryz.f256 k
theorem impl_StepVec (n : Nat) (x0 : Vec) (x1 : Int) (r : Vec × Bool) (H : impl_StepVecF n x0 x1 = some r) : LCall Tryz.prog 256 [.val true (CV.frzRow (Vec.row x0)),.val false [.lit (.int .i64 x1)]] [.val true (Vec.row r.1),.val false [.lit (.bool r.2)]] [] := by
 refine LCall.of_body tOk Tryz.func256 rfl (c := (.seq (G256 0) (.seq (.seq (G256 1) (.cond (.tmp 14) (.seq (G256 2) .ret) .skip)) (.seq (G256 3) (.seq (G256 4) (.seq (G256 5) (.seq (.seq (G256 6) (.cond (.tmp 28) (.seq (G256 7) .ret) .skip)) (.seq (G256 8) .ret)))))))) kr (Nat.le_of_ble_eq_true kr) 0 (rs := [.cell 4 162,.tmp 5]) rfl [] .nil [(true,(Vec.row r.1)),(false,[.lit (.bool r.2)])] [] [] fun cx => ?_
 show Tr _ _ _ ⟨31,0,[sV 0 (Vec.row x0),sI 1 x1],[]⟩ _
 unfold impl_StepVecF at H
 refine tG 3 22 20 kr kr ?_
 refine tS ?_
 refine rU 1 kr ?_
 obtain ⟨r1,er1,H⟩ := bind_some H
 refine lV [.rd] [] (impl_VecOk n x0 r1 er1) kr kr kr kr (.inl rfl) ?_
 refine lU 2 kr ?_
 refine lT ⟨31,0,[sB 10 (!r1),sB 9 (!r1),sB 8 r1,sV 7 (Vec.row x0),sA 4 4 5 0,sA 2 2 5 0,sI 1 x1],[(4,[cI 0,cI 0,cI 0,cI 0,cI 0]),(2,(Vec.row x0))]⟩ kr ?_
 cases h1 : (!r1)
 ·have H := bifF h1 H
  refine lU 1 kr ?_
  obtain ⟨r2,er2,H⟩ := bind_some H
  refine lV [.rd,.rd,.rd] [] (impl_in n x1 1 1000 r2 er2) kr kr kr kr (.inl rfl) ?_
  refine uD 2 16406 20 kr kr ?_
  obtain ⟨h2,H⟩ | ⟨h2,H⟩ := bC H
  ·refine tF h2 kr ?_
   refine tK ?_
   refine tG 3 86 84 kr kr ?_
   refine tG 6 84 84 kr kr ?_
   refine tG 5 84 84 kr kr ?_
   refine tS ?_
   refine rU 1 kr ?_
   obtain ⟨r3,er3,H⟩ := bind_some H
   refine lV [.rd] [] (impl_VecOk n (⟨x0.Root,(w6 (x0.Cost + x1)),(w6 (x0.Hops + 1)),x0.Bridge,x0.Port⟩ : Vec) r3 er3) kr kr kr kr (.inl rfl) ?_
   refine uD 1 268435540 84 kr kr ?_
   obtain ⟨h3,H⟩ | ⟨h3,H⟩ := bC H
   ·refine tF h3 kr ?_
    refine tK ?_
    refine tG 3 48 16 kr kr ?_
    exact te (by obtain rfl := si H; exact fO [(true,[cI x0.Root,cI (w6 (x0.Cost + x1)),cI (w6 (x0.Hops + 1)),cI x0.Bridge,cI x0.Port]),(false,[cB true])] kr rfl rfl)
   refine tT h3 kr ?_
   refine tG 3 48 16 kr kr ?_
   exact te (by obtain rfl := si H; exact fO [(true,(Vec.row x0)),(false,[cB false])] kr rfl rfl)
  refine tT h2 kr ?_
  refine tG 3 48 16 kr kr ?_
  exact te (by obtain rfl := si H; exact fO [(true,(Vec.row x0)),(false,[cB false])] kr rfl rfl)
 have H := bifT h1 H
 refine uD 4 16406 20 kr kr ?_
 refine tt kr ?_
 refine tG 3 48 16 kr kr ?_
 exact te (by obtain rfl := si H; exact fO [(true,(Vec.row x0)),(false,[cB false])] kr rfl rfl)
def impl_LessVecF (n : Nat) (x0 : Vec) (x1 : Vec) : Option (Bool) :=
  (bif (x0.Root != x1.Root) then (some (decide (x0.Root < x1.Root))) else (bif (x0.Cost != x1.Cost) then (some (decide (x0.Cost < x1.Cost))) else (bif (x0.Bridge != x1.Bridge) then (some (decide (x0.Bridge < x1.Bridge))) else (some (decide (x0.Port < x1.Port))))))
noncomputable abbrev G231 (k : Nat) := Rg Tryz.f231 k
theorem impl_LessVec (n : Nat) (x0 : Vec) (x1 : Vec) (r : Bool) (H : impl_LessVecF n x0 x1 = some r) : LCall Tryz.prog 231 [.val true (CV.frzRow (Vec.row x0)),.val true (CV.frzRow (Vec.row x1))] [.val false [.lit (.bool r)]] [] := by
 refine LCall.of_body tOk Tryz.func231 rfl (c := (.seq (G231 0) (.seq (.block 0 (.seq (G231 1) (.cond (.tmp 5) (.seq (G231 2) .ret) (.seq (G231 3) (.cond (.tmp 16) (.seq (G231 4) .ret) (.seq (G231 5) (.cond (.tmp 27) (.seq (G231 6) .ret) .skip))))))) (.seq (G231 7) .ret)))) kr (Nat.le_of_ble_eq_true kr) 0 (rs := [.tmp 4]) rfl [] .nil [(false,[.lit (.bool r)])] [] [] fun cx => ?_
 show Tr _ _ _ ⟨43,0,[sV 0 (Vec.row x0),sV 1 (Vec.row x1)],[]⟩ _
 unfold impl_LessVecF at H
 refine tG 3 12 12 kr kr ?_
 refine tS ?_
 refine tB ?_
 refine tG 6 44 12 kr kr ?_
 obtain ⟨h1,H⟩ | ⟨h1,H⟩ := bC H
 ·refine tF h1 kr ?_
  refine tG 6 65548 12 kr kr ?_
  obtain ⟨h2,H⟩ | ⟨h2,H⟩ := bC H
  ·refine tF h2 kr ?_
   refine tG 6 134217740 12 kr kr ?_
   obtain ⟨h3,H⟩ | ⟨h3,H⟩ := bC H
   ·refine tF h3 kr ?_
    refine tK ?_
    refine tG 6 16 0 kr kr ?_
    exact te (by obtain rfl := si H; exact fO [(false,[cB (decide (x0.Port < x1.Port))])] kr rfl rfl)
   refine tT h3 kr ?_
   refine tG 6 16 0 kr kr ?_
   exact te (by obtain rfl := si H; exact fO [(false,[cB (decide (x0.Bridge < x1.Bridge))])] kr rfl rfl)
  refine tT h2 kr ?_
  refine tG 6 16 0 kr kr ?_
  exact te (by obtain rfl := si H; exact fO [(false,[cB (decide (x0.Cost < x1.Cost))])] kr rfl rfl)
 refine tT h1 kr ?_
 refine tG 6 16 0 kr kr ?_
 exact te (by obtain rfl := si H; exact fO [(false,[cB (decide (x0.Root < x1.Root))])] kr rfl rfl)
def impl_BestVec_J1 (n : Nat) (x0 : Int) (y11 : Int) (y12 : Int) (y13 : Int) (y14 : Int) : Option (Vec × Int) :=
  (some ((⟨y12,y13,y14,x0,0⟩ : Vec),y11))
def impl_BestVec_J3 (n : Nat) (k : (Int × Int × Int × Int × Int × Int × Int × Int × Int × Int → Option ((Int × Int × Int × Int) ⊕ (Vec × Int)))) (r17 : Vec × Bool) (y1 : Int) (y10 : Int) (y2 : Int) (y3 : Int) (y4 : Int) (y5 : Int) (y6 : Int) (y7 : Int) (y8 : Int) (y9 : Int) (y18 : Bool) (y19 : Bool) (y20 : Bool) (y21 : Bool) (y22 : Bool) (y23 : Bool) (y24 : Bool) : Option ((Int × Int × Int × Int) ⊕ (Vec × Int)) :=
  (bif y18 then (k ((IntKind.wrap .i64 (y1 + 1)),y1,r17.1.Root,r17.1.Cost,r17.1.Hops,r17.1.Bridge,r17.1.Port,r17.1.Root,r17.1.Cost,r17.1.Hops)) else (k ((IntKind.wrap .i64 (y1 + 1)),y2,y3,y4,y5,y6,y7,y8,y9,y10)))
def impl_BestVec_L2 (n : Nat) : Nat → Int → (List Pt) → Int → Int → Int → Int → Int → Int → Int → Int → Int → Int → Option ((Int × Int × Int × Int) ⊕ (Vec × Int))
  | 0,_,_,_,_,_,_,_,_,_,_,_,_ => none
  | mo15 + 1,x0,x1,y1,y2,y3,y4,y5,y6,y7,y8,y9,y10 => (bif (decide (y1 < (x1.length : Int))) then ((idx x1 y1).bind fun v16 => (bif (!v16.Up) then (impl_BestVec_L2 n mo15 x0 x1 (IntKind.wrap .i64 (y1 + 1)) y2 y3 y4 y5 y6 y7 y8 y9 y10) else (bif (!v16.Has) then (impl_BestVec_L2 n mo15 x0 x1 (IntKind.wrap .i64 (y1 + 1)) y2 y3 y4 y5 y6 y7 y8 y9 y10) else ((impl_StepVecF n v16.Heard v16.Cost).bind fun r17 => (bif r17.2 then (bif (decide (r17.1.Root < x0)) then (bif (decide (y2 < 0)) then (impl_BestVec_J3 n (fun v => impl_BestVec_L2 n mo15 x0 x1 v.1 v.2.1 v.2.2.1 v.2.2.2.1 v.2.2.2.2.1 v.2.2.2.2.2.1 v.2.2.2.2.2.2.1 v.2.2.2.2.2.2.2.1 v.2.2.2.2.2.2.2.2.1 v.2.2.2.2.2.2.2.2.2) r17 y1 y10 y2 y3 y4 y5 y6 y7 y8 y9 true true true true true true true) else ((impl_LessVecF n r17.1 (⟨y3,y4,y5,y6,y7⟩ : Vec)).bind fun r25 => (impl_BestVec_J3 n (fun v => impl_BestVec_L2 n mo15 x0 x1 v.1 v.2.1 v.2.2.1 v.2.2.2.1 v.2.2.2.2.1 v.2.2.2.2.2.1 v.2.2.2.2.2.2.1 v.2.2.2.2.2.2.2.1 v.2.2.2.2.2.2.2.2.1 v.2.2.2.2.2.2.2.2.2) r17 y1 y10 y2 y3 y4 y5 y6 y7 y8 y9 r25 true true true true true true))) else (impl_BestVec_J3 n (fun v => impl_BestVec_L2 n mo15 x0 x1 v.1 v.2.1 v.2.2.1 v.2.2.2.1 v.2.2.2.2.1 v.2.2.2.2.2.1 v.2.2.2.2.2.2.1 v.2.2.2.2.2.2.2.1 v.2.2.2.2.2.2.2.2.1 v.2.2.2.2.2.2.2.2.2) r17 y1 y10 y2 y3 y4 y5 y6 y7 y8 y9 false false false true true true true)) else (impl_BestVec_J3 n (fun v => impl_BestVec_L2 n mo15 x0 x1 v.1 v.2.1 v.2.2.1 v.2.2.2.1 v.2.2.2.2.1 v.2.2.2.2.2.1 v.2.2.2.2.2.2.1 v.2.2.2.2.2.2.2.1 v.2.2.2.2.2.2.2.2.1 v.2.2.2.2.2.2.2.2.2) r17 y1 y10 y2 y3 y4 y5 y6 y7 y8 y9 false false false false false false false)))))) else (some (Sum.inl (y2,y8,y9,y10))))
def impl_BestVecF (n : Nat) (x0 : Int) (x1 : (List Pt)) : Option (Vec × Int) :=
  ((impl_BestVec_L2 n n x0 x1 0 (-1) 0 0 0 0 0 x0 0 0).bind fun o => match o with | .inl (y11,y12,y13,y14) => (impl_BestVec_J1 n x0 y11 y12 y13 y14) | .inr r => some r)
noncomputable abbrev G230 (k : Nat) := Rg Tryz.f230 k
theorem impl_BestVec (n : Nat) (x0 : Int) (x1 : (List Pt)) (r : Vec × Int) (H : impl_BestVecF n x0 x1 = some r) : LCall Tryz.prog 230 [.val false [.lit (.int .i64 x0)],.val false [.sl false 8 (CV.frzEs (x1.map Pt.row))]] [.val true (Vec.row r.1),.val false [.lit (.int .i64 r.2)]] [] := by
 refine LCall.of_body tOk Tryz.func230 rfl (c := (.seq (G230 0) (.seq (G230 1) (.seq (G230 2) (.seq (.seq (G230 3) (.block 0 (.loop (.seq (G230 4) (.seq (.cond (.tmp 19) .skip (.exit 0)) (.seq (.block 1 (.seq (G230 5) (.seq (.seq (G230 6) (.cond (.tmp 30) (.exit 1) .skip)) (.seq (G230 7) (.seq (G230 8) (.cond (.tmp 54) (.seq (G230 9) (G230 10)) .skip)))))) (G230 11))))))) (.seq (G230 12) .ret)))))) kr (Nat.le_of_ble_eq_true kr) 0 (rs := [.cell 4 162,.tmp 5]) rfl [] .nil [(true,(Vec.row r.1)),(false,[.lit (.int .i64 r.2)])] [] [] fun cx => ?_
 show Tr _ _ _ ⟨68,0,[sI 0 x0,sC 1 (cF 8 x1 Pt.row)],[]⟩ _
 unfold impl_BestVecF at H
 refine tG 2 51 16 kr kr ?_
 refine tG 6 243 80 kr kr ?_
 refine tG 1 499 336 kr kr ?_
 refine tS ?_
 refine rU 1 kr ?_
 refine lL 52 3 182 16 17 none ⟨(.slot 16),[],0,false,8,(CV.frzEs (x1.map Pt.row))⟩ (x1).length _ kr kr kr kr kr (frz_len _ _) rfl ?_
 refine uD 1 459249 336 kr kr ?_
 obtain ⟨o15,eo15,Ho15⟩ := bind_some H
 clear H
 refine Tr.mid (ι := Int × Int × Int × Int) (fun v => ⟨68,0,[sI 7 v.1,sA 6 6 5 0,sI 5 0,sA 4 4 5 0],[(6,[cI v.2.1,cI v.2.2.1,cI v.2.2.2,cI x0,cI 0]),(4,[cI 0,cI 0,cI 0,cI 0,cI 0])]⟩) (fun v => impl_BestVec_J1 n x0 v.1 v.2.1 v.2.2.1 v.2.2.2 = some r) ?_ ?_
 ·refine tB ?_
  refine Tr.loop (ι := Nat × (Int × Int × Int × Int × Int × Int × Int × Int × Int × Int)) (fun v => ⟨68,0,[sI 18 v.2.1,sI 17 (x1.length : Int),sC 16 (cF 8 x1 Pt.row),sA 8 8 5 0,sI 7 v.2.2.1,sA 6 6 5 0,sI 5 0,sA 4 4 5 0,sI 0 x0],[(8,[cI v.2.2.2.1,cI v.2.2.2.2.1,cI v.2.2.2.2.2.1,cI v.2.2.2.2.2.2.1,cI v.2.2.2.2.2.2.2.1]),(6,[cI v.2.2.2.2.2.2.2.2.1,cI v.2.2.2.2.2.2.2.2.2.1,cI v.2.2.2.2.2.2.2.2.2.2,cI x0,cI 0]),(4,[cI 0,cI 0,cI 0,cI 0,cI 0])]⟩) (fun v => impl_BestVec_L2 n v.1 x0 x1 v.2.1 v.2.2.1 v.2.2.2.1 v.2.2.2.2.1 v.2.2.2.2.2.1 v.2.2.2.2.2.2.1 v.2.2.2.2.2.2.2.1 v.2.2.2.2.2.2.2.2.1 v.2.2.2.2.2.2.2.2.2.1 v.2.2.2.2.2.2.2.2.2.2 = some o15) (fun v => v.1) (n,(0,(-1),0,0,0,0,0,x0,0,0)) eo15 (St.sub_of [18,17,16,8,7,6,5,4,0] [8,6,4] kr) ?_
  rintro ⟨mo15,y1,y2,y3,y4,y5,y6,y7,y8,y9,y10⟩ H
  have H : impl_BestVec_L2 n mo15 x0 x1 y1 y2 y3 y4 y5 y6 y7 y8 y9 y10 = some o15 := H
  obtain _ | mo15 := mo15
  ·cases (show (none : Option _) = some o15 from H)
  rw [impl_BestVec_L2] at H
  refine tG 1 983537 336 kr kr ?_
  refine tS ?_
  obtain ⟨h1,H⟩ | ⟨h1,H⟩ := bC H
  ·refine tF h1 kr ?_
   refine Tr.exit ?_
   refine And.intro (fun _ => ?_) (fun h => absurd rfl h)
   obtain rfl := si H
   have H := Ho15
   dsimp only at H
   exact jn (y2,y8,y9,y10) H (sB_ [7,6,5,4] [6,4] kr)
  refine tT h1 kr ?_
  refine tK ?_
  refine tS ?_
  refine tB ?_
  refine rU 1 kr ?_
  obtain ⟨v16,ev16,H⟩ := bind_some H
  refine lI 52 0 16 18 21 none ⟨(.slot 16),[],0,false,8,(CV.frzEs (x1.map Pt.row))⟩ y1 (Pt.row v16) _ kr kr kr kr rfl (idx_isF ev16) rfl ?_
  refine uD 4 8325105 1360 kr kr ?_
  refine tS ?_
  refine rU 4 kr ?_
  refine lT ⟨68,0,[sB 26 (!v16.Up),sB 25 (!v16.Up),sB 24 v16.Up,sA 23 10 8 0,sI 9 y1,sA 10 10 8 0,sV 22 (Pt.row v16),(21,.fad ((Pt.row v16))),sI 20 y1,sB 19 (decide (y1 < (x1.length : Int))),sI 18 y1,sI 17 (x1.length : Int),sC 16 (cF 8 x1 Pt.row),sA 8 8 5 0,sI 7 y2,sA 6 6 5 0,sI 5 0,sA 4 4 5 0,sI 0 x0],[(10,(Pt.row v16)),(8,[cI y3,cI y4,cI y5,cI y6,cI y7]),(6,[cI y8,cI y9,cI y10,cI x0,cI 0]),(4,[cI 0,cI 0,cI 0,cI 0,cI 0])]⟩ kr ?_
  cases h2 : (!v16.Up)
  ·have H := bifF h2 H
   refine uD 4 2147420145 1360 kr kr ?_
   obtain ⟨h3,H⟩ | ⟨h3,H⟩ := bC H
   ·refine tF h3 kr ?_
    refine tK ?_
    refine rU 4 kr ?_
    obtain ⟨r17,er17,H⟩ := bind_some H
    refine lV [.rd,.rd] [] (impl_StepVec n v16.Heard v16.Cost r17 er17) kr kr kr kr (.inl rfl) ?_
    refine LAt.movT tOk (ty := 259) (t := 36) (d := 31) (g := none) [(true,(Vec.row r17.1)),(false,[cB r17.2])] _ kr (.inl rfl) kr kr kr kr rfl ?_
    refine uD 5 481036279793 3408 kr kr ?_
    refine tS ?_
    refine Tr.mid (ι := Bool × Bool × Bool × Bool × Bool × Bool × Bool) (fun v => ⟨68,0,[sB 54 v.1,sB 46 v.2.1,sB 45 v.2.2.1,sB 40 v.2.2.2.1,sB 39 v.2.2.2.2.1,sB 12 v.2.2.2.2.2.1,sA 11 11 5 0,sB 38 v.2.2.2.2.2.2,(31,.tup [(true,[.dead,.dead,.dead,.dead,.dead]),(false,[.dead])]),sV 37 (Vec.row r17.1),sI 35 v16.Cost,sA 34 10 8 1,sV 33 ((Pt.row v16).drop 3),sA 32 10 8 3,sB 30 false,sB 29 false,sB 28 v16.Has,sA 27 10 8 2,sB 26 false,sB 25 false,sB 24 v16.Up,sA 23 10 8 0,sI 9 y1,sA 10 10 8 0,sV 22 (Pt.row v16),(21,.fad ((Pt.row v16))),sI 20 y1,sB 19 true,sI 18 y1,sI 17 (x1.length : Int),sC 16 (cF 8 x1 Pt.row),sA 8 8 5 0,sI 7 y2,sA 6 6 5 0,sI 5 0,sA 4 4 5 0,sI 0 x0],[(11,(Vec.row r17.1)),(10,(Pt.row v16)),(8,[cI y3,cI y4,cI y5,cI y6,cI y7]),(6,[cI y8,cI y9,cI y10,cI x0,cI 0]),(4,[cI 0,cI 0,cI 0,cI 0,cI 0])]⟩) (fun v => impl_BestVec_J3 n (fun v => impl_BestVec_L2 n mo15 x0 x1 v.1 v.2.1 v.2.2.1 v.2.2.2.1 v.2.2.2.2.1 v.2.2.2.2.2.1 v.2.2.2.2.2.2.1 v.2.2.2.2.2.2.2.1 v.2.2.2.2.2.2.2.2.1 v.2.2.2.2.2.2.2.2.2) r17 y1 y10 y2 y3 y4 y5 y6 y7 y8 y9 v.1 v.2.1 v.2.2.1 v.2.2.2.1 v.2.2.2.2.1 v.2.2.2.2.2.1 v.2.2.2.2.2.2 = some o15) ?_ ?_
    ·refine Tr.at ?_
     refine lU 2 kr ?_
     refine lT ⟨68,0,[sB 40 r17.2,sB 39 r17.2,sB 12 r17.2,sA 11 11 5 0,sB 38 r17.2,(31,.tup [(true,[.dead,.dead,.dead,.dead,.dead]),(false,[.dead])]),sV 37 (Vec.row r17.1),sI 35 v16.Cost,sA 34 10 8 1,sV 33 ((Pt.row v16).drop 3),sA 32 10 8 3,sB 30 (!v16.Has),sB 29 (!v16.Has),sB 28 v16.Has,sA 27 10 8 2,sB 26 false,sB 25 false,sB 24 v16.Up,sA 23 10 8 0,sI 9 y1,sA 10 10 8 0,sV 22 (Pt.row v16),(21,.fad ((Pt.row v16))),sI 20 y1,sB 19 (decide (y1 < (x1.length : Int))),sI 18 y1,sI 17 (x1.length : Int),sC 16 (cF 8 x1 Pt.row),sA 8 8 5 0,sI 7 y2,sA 6 6 5 0,sI 5 0,sA 4 4 5 0,sI 0 x0],[(11,(Vec.row r17.1)),(10,(Pt.row v16)),(8,[cI y3,cI y4,cI y5,cI y6,cI y7]),(6,[cI y8,cI y9,cI y10,cI x0,cI 0]),(4,[cI 0,cI 0,cI 0,cI 0,cI 0])]⟩ kr ?_
     cases h5 : r17.2
     ·have H := bifF h5 H
      refine uD 14 0x7fffefffff1ff1 3408 kr kr ?_
      refine Sb.to ⟨68,0,[sB 54 false,(53,.tup []),(52,.tup []),(51,.tup []),(50,.tup []),(49,.tup []),(48,.tup []),(47,.tup []),sB 46 false,sB 45 false,(44,.tup []),(43,.tup []),(42,.tup []),(41,.tup []),sB 40 false,sB 39 false,sB 12 false,sA 11 11 5 0,sB 38 false,(31,.tup [(true,[.dead,.dead,.dead,.dead,.dead]),(false,[.dead])]),sV 37 (Vec.row r17.1),sI 35 v16.Cost,sA 34 10 8 1,sV 33 ((Pt.row v16).drop 3),sA 32 10 8 3,sB 30 (!v16.Has),sB 29 (!v16.Has),sB 28 v16.Has,sA 27 10 8 2,sB 26 false,sB 25 false,sB 24 v16.Up,sA 23 10 8 0,sI 9 y1,sA 10 10 8 0,sV 22 (Pt.row v16),(21,.fad ((Pt.row v16))),sI 20 y1,sB 19 (decide (y1 < (x1.length : Int))),sI 18 y1,sI 17 (x1.length : Int),sC 16 (cF 8 x1 Pt.row),sA 8 8 5 0,sI 7 y2,sA 6 6 5 0,sI 5 0,sA 4 4 5 0,sI 0 x0],[(11,(Vec.row r17.1)),(10,(Pt.row v16)),(8,[cI y3,cI y4,cI y5,cI y6,cI y7]),(6,[cI y8,cI y9,cI y10,cI x0,cI 0]),(4,[cI 0,cI 0,cI 0,cI 0,cI 0])]⟩ kr ?_
      rw [h1]
      rw [h3]
      exact jn (false,false,false,false,false,false,false) H (sB_ [54,46,45,40,39,12,11,38,31,37,35,34,33,32,30,29,28,27,26,25,24,23,9,10,22,21,20,19,18,17,16,8,7,6,5,4,0] [11,10,8,6,4] kr)
     have H := bifT h5 H
     refine lU 6 kr ?_
     refine lT ⟨68,0,[sB 46 (decide (r17.1.Root < x0)),sB 45 (decide (r17.1.Root < x0)),sB 44 (decide (r17.1.Root < x0)),sI 43 x0,sI 42 r17.1.Root,sA 41 11 5 0,sB 40 true,sB 39 true,sB 12 true,sA 11 11 5 0,sB 38 true,(31,.tup [(true,[.dead,.dead,.dead,.dead,.dead]),(false,[.dead])]),sV 37 (Vec.row r17.1),sI 35 v16.Cost,sA 34 10 8 1,sV 33 ((Pt.row v16).drop 3),sA 32 10 8 3,sB 30 (!v16.Has),sB 29 (!v16.Has),sB 28 v16.Has,sA 27 10 8 2,sB 26 false,sB 25 false,sB 24 v16.Up,sA 23 10 8 0,sI 9 y1,sA 10 10 8 0,sV 22 (Pt.row v16),(21,.fad ((Pt.row v16))),sI 20 y1,sB 19 (decide (y1 < (x1.length : Int))),sI 18 y1,sI 17 (x1.length : Int),sC 16 (cF 8 x1 Pt.row),sA 8 8 5 0,sI 7 y2,sA 6 6 5 0,sI 5 0,sA 4 4 5 0,sI 0 x0],[(11,(Vec.row r17.1)),(10,(Pt.row v16)),(8,[cI y3,cI y4,cI y5,cI y6,cI y7]),(6,[cI y8,cI y9,cI y10,cI x0,cI 0]),(4,[cI 0,cI 0,cI 0,cI 0,cI 0])]⟩ kr ?_
     cases h6 : (decide (r17.1.Root < x0))
     ·have H := bifF h6 H
      refine uD 8 0x7fffefffff1ff1 3408 kr kr ?_
      refine Sb.to ⟨68,0,[sB 54 false,(53,.tup []),(52,.tup []),(51,.tup []),(50,.tup []),(49,.tup []),(48,.tup []),(47,.tup []),sB 46 false,sB 45 false,sB 44 false,sI 43 x0,sI 42 r17.1.Root,sA 41 11 5 0,sB 40 true,sB 39 true,sB 12 true,sA 11 11 5 0,sB 38 true,(31,.tup [(true,[.dead,.dead,.dead,.dead,.dead]),(false,[.dead])]),sV 37 (Vec.row r17.1),sI 35 v16.Cost,sA 34 10 8 1,sV 33 ((Pt.row v16).drop 3),sA 32 10 8 3,sB 30 (!v16.Has),sB 29 (!v16.Has),sB 28 v16.Has,sA 27 10 8 2,sB 26 false,sB 25 false,sB 24 v16.Up,sA 23 10 8 0,sI 9 y1,sA 10 10 8 0,sV 22 (Pt.row v16),(21,.fad ((Pt.row v16))),sI 20 y1,sB 19 (decide (y1 < (x1.length : Int))),sI 18 y1,sI 17 (x1.length : Int),sC 16 (cF 8 x1 Pt.row),sA 8 8 5 0,sI 7 y2,sA 6 6 5 0,sI 5 0,sA 4 4 5 0,sI 0 x0],[(11,(Vec.row r17.1)),(10,(Pt.row v16)),(8,[cI y3,cI y4,cI y5,cI y6,cI y7]),(6,[cI y8,cI y9,cI y10,cI x0,cI 0]),(4,[cI 0,cI 0,cI 0,cI 0,cI 0])]⟩ kr ?_
      rw [h1]
      rw [h3]
      exact jn (false,false,false,true,true,true,true) H (sB_ [54,46,45,40,39,12,11,38,31,37,35,34,33,32,30,29,28,27,26,25,24,23,9,10,22,21,20,19,18,17,16,8,7,6,5,4,0] [11,10,8,6,4] kr)
     have H := bifT h6 H
     refine lU 3 kr ?_
     refine lT ⟨68,0,[sB 49 (decide (y2 < 0)),sB 48 (decide (y2 < 0)),sI 47 y2,sB 46 true,sB 45 true,sB 44 true,sI 43 x0,sI 42 r17.1.Root,sA 41 11 5 0,sB 40 true,sB 39 true,sB 12 true,sA 11 11 5 0,sB 38 true,(31,.tup [(true,[.dead,.dead,.dead,.dead,.dead]),(false,[.dead])]),sV 37 (Vec.row r17.1),sI 35 v16.Cost,sA 34 10 8 1,sV 33 ((Pt.row v16).drop 3),sA 32 10 8 3,sB 30 (!v16.Has),sB 29 (!v16.Has),sB 28 v16.Has,sA 27 10 8 2,sB 26 false,sB 25 false,sB 24 v16.Up,sA 23 10 8 0,sI 9 y1,sA 10 10 8 0,sV 22 (Pt.row v16),(21,.fad ((Pt.row v16))),sI 20 y1,sB 19 (decide (y1 < (x1.length : Int))),sI 18 y1,sI 17 (x1.length : Int),sC 16 (cF 8 x1 Pt.row),sA 8 8 5 0,sI 7 y2,sA 6 6 5 0,sI 5 0,sA 4 4 5 0,sI 0 x0],[(11,(Vec.row r17.1)),(10,(Pt.row v16)),(8,[cI y3,cI y4,cI y5,cI y6,cI y7]),(6,[cI y8,cI y9,cI y10,cI x0,cI 0]),(4,[cI 0,cI 0,cI 0,cI 0,cI 0])]⟩ kr ?_
     cases h7 : (decide (y2 < 0))
     ·have H := bifF h7 H
      refine lU 2 kr ?_
      obtain ⟨r25,er25,H⟩ := bind_some H
      refine lV [.rd,.rd] [] (impl_LessVec n r17.1 (⟨y3,y4,y5,y6,y7⟩ : Vec) r25 er25) kr kr kr kr (.inl rfl) ?_
      refine uD 2 0x7fffefffff1ff1 3408 kr kr ?_
      refine Sb.to ⟨68,0,[sB 54 r25,sB 53 r25,sB 52 r25,sV 51 [cI y3,cI y4,cI y5,cI y6,cI y7],sV 50 (Vec.row r17.1),sB 49 false,sB 48 false,sI 47 y2,sB 46 true,sB 45 true,sB 44 true,sI 43 x0,sI 42 r17.1.Root,sA 41 11 5 0,sB 40 true,sB 39 true,sB 12 true,sA 11 11 5 0,sB 38 true,(31,.tup [(true,[.dead,.dead,.dead,.dead,.dead]),(false,[.dead])]),sV 37 (Vec.row r17.1),sI 35 v16.Cost,sA 34 10 8 1,sV 33 ((Pt.row v16).drop 3),sA 32 10 8 3,sB 30 (!v16.Has),sB 29 (!v16.Has),sB 28 v16.Has,sA 27 10 8 2,sB 26 false,sB 25 false,sB 24 v16.Up,sA 23 10 8 0,sI 9 y1,sA 10 10 8 0,sV 22 (Pt.row v16),(21,.fad ((Pt.row v16))),sI 20 y1,sB 19 (decide (y1 < (x1.length : Int))),sI 18 y1,sI 17 (x1.length : Int),sC 16 (cF 8 x1 Pt.row),sA 8 8 5 0,sI 7 y2,sA 6 6 5 0,sI 5 0,sA 4 4 5 0,sI 0 x0],[(11,(Vec.row r17.1)),(10,(Pt.row v16)),(8,[cI y3,cI y4,cI y5,cI y6,cI y7]),(6,[cI y8,cI y9,cI y10,cI x0,cI 0]),(4,[cI 0,cI 0,cI 0,cI 0,cI 0])]⟩ kr ?_
      rw [h1]
      rw [h3]
      exact jn (r25,true,true,true,true,true,true) H (sB_ [54,46,45,40,39,12,11,38,31,37,35,34,33,32,30,29,28,27,26,25,24,23,9,10,22,21,20,19,18,17,16,8,7,6,5,4,0] [11,10,8,6,4] kr)
     have H := bifT h7 H
     refine uD 5 0x7fffefffff1ff1 3408 kr kr ?_
     refine Sb.to ⟨68,0,[sB 54 true,sB 53 true,(52,.tup []),(51,.tup []),(50,.tup []),sB 49 true,sB 48 true,sI 47 y2,sB 46 true,sB 45 true,sB 44 true,sI 43 x0,sI 42 r17.1.Root,sA 41 11 5 0,sB 40 true,sB 39 true,sB 12 true,sA 11 11 5 0,sB 38 true,(31,.tup [(true,[.dead,.dead,.dead,.dead,.dead]),(false,[.dead])]),sV 37 (Vec.row r17.1),sI 35 v16.Cost,sA 34 10 8 1,sV 33 ((Pt.row v16).drop 3),sA 32 10 8 3,sB 30 (!v16.Has),sB 29 (!v16.Has),sB 28 v16.Has,sA 27 10 8 2,sB 26 false,sB 25 false,sB 24 v16.Up,sA 23 10 8 0,sI 9 y1,sA 10 10 8 0,sV 22 (Pt.row v16),(21,.fad ((Pt.row v16))),sI 20 y1,sB 19 (decide (y1 < (x1.length : Int))),sI 18 y1,sI 17 (x1.length : Int),sC 16 (cF 8 x1 Pt.row),sA 8 8 5 0,sI 7 y2,sA 6 6 5 0,sI 5 0,sA 4 4 5 0,sI 0 x0],[(11,(Vec.row r17.1)),(10,(Pt.row v16)),(8,[cI y3,cI y4,cI y5,cI y6,cI y7]),(6,[cI y8,cI y9,cI y10,cI x0,cI 0]),(4,[cI 0,cI 0,cI 0,cI 0,cI 0])]⟩ kr ?_
     rw [h1]
     rw [h3]
     exact jn (true,true,true,true,true,true,true) H (sB_ [54,46,45,40,39,12,11,38,31,37,35,34,33,32,30,29,28,27,26,25,24,23,9,10,22,21,20,19,18,17,16,8,7,6,5,4,0] [11,10,8,6,4] kr)
    rintro ⟨y18,y19,y20,y21,y22,y23,y24⟩ H
    have H : (impl_BestVec_J3 n (fun v => impl_BestVec_L2 n mo15 x0 x1 v.1 v.2.1 v.2.2.1 v.2.2.2.1 v.2.2.2.2.1 v.2.2.2.2.2.1 v.2.2.2.2.2.2.1 v.2.2.2.2.2.2.2.1 v.2.2.2.2.2.2.2.2.1 v.2.2.2.2.2.2.2.2.2) r17 y1 y10 y2 y3 y4 y5 y6 y7 y8 y9 y18 y19 y20 y21 y22 y23 y24) = some o15 := H
    unfold impl_BestVec_J3 at H
    cases h4 : y18
    ·have H := bifF h4 H
     refine tf kr ?_
     refine tK ?_
     refine tE 2 0x2004061efffff1ff1 3408 kr kr ?_
     exact jn (mo15,((w6 (y1 + 1)),y2,y3,y4,y5,y6,y7,y8,y9,y10)) H (sM mo15 [18,17,16,8,7,6,5,4,0] [8,6,4] kr)
    have H := bifT h4 H
    refine tt kr ?_
    refine tG 4 0x1c061efffff1ff1 3408 kr kr ?_
    refine tE 9 0x1ffc061efffff1ff1 3408 kr kr ?_
    refine tE 2 0x3ffc061efffff1ff1 3408 kr kr ?_
    exact jn (mo15,((w6 (y1 + 1)),y1,r17.1.Root,r17.1.Cost,r17.1.Hops,r17.1.Bridge,r17.1.Port,r17.1.Root,r17.1.Cost,r17.1.Hops)) H (sM mo15 [18,17,16,8,7,6,5,4,0] [8,6,4] kr)
   refine tT h3 kr ?_
   refine Tr.exit ?_
   refine And.intro (fun _ => ?_) (fun h => absurd rfl h)
   refine tE 2 0x2000000007fff07f1 1360 kr kr ?_
   exact jn (mo15,((w6 (y1 + 1)),y2,y3,y4,y5,y6,y7,y8,y9,y10)) H (sM mo15 [18,17,16,8,7,6,5,4,0] [8,6,4] kr)
  have H := bifT h2 H
  refine uD 4 2147420145 1360 kr kr ?_
  refine tt kr ?_
  refine Tr.exit ?_
  refine And.intro (fun _ => ?_) (fun h => absurd rfl h)
  refine tE 2 0x2000000007fff07f1 1360 kr kr ?_
  exact jn (mo15,((w6 (y1 + 1)),y2,y3,y4,y5,y6,y7,y8,y9,y10)) H (sM mo15 [18,17,16,8,7,6,5,4,0] [8,6,4] kr)
 rintro ⟨y11,y12,y13,y14⟩ H
 have H : (impl_BestVec_J1 n x0 y11 y12 y13 y14) = some r := H
 unfold impl_BestVec_J1 at H
 refine tG 4 48 16 kr kr ?_
 exact te (by obtain rfl := si H; exact fO [(true,[cI y12,cI y13,cI y14,cI x0,cI 0]),(false,[cI y11])] kr rfl rfl)
def impl_SayVecF (n : Nat) (x0 : Int) (x1 : (List Pt)) (x2 : Int) : Option (Vec) :=
  ((impl_BestVecF n x0 x1).bind fun r1 => (some (⟨r1.1.Root,r1.1.Cost,r1.1.Hops,r1.1.Bridge,x2⟩ : Vec)))
theorem impl_SayVec (n : Nat) (x0 : Int) (x1 : (List Pt)) (x2 : Int) (r : Vec) (H : impl_SayVecF n x0 x1 x2 = some r) : LCall Tryz.prog 217 [.val false [.lit (.int .i64 x0)],.val false [.sl false 8 (CV.frzEs (x1.map Pt.row))],.val false [.lit (.int .i64 x2)]] [.val true (Vec.row r)] [] := by
 refine LCall.of_body tOk Tryz.func217 rfl (c := (.seq (Rg Tryz.f217 0) (.seq (Rg Tryz.f217 1) (.seq (Rg Tryz.f217 2) (.seq (Rg Tryz.f217 3) .ret))))) kr (Nat.le_of_ble_eq_true kr) 0 (rs := [.cell 6 162]) rfl [] .nil [(true,(Vec.row r))] [] [] fun cx => ?_
 show Tr _ _ _ ⟨18,0,[sI 0 x0,sC 1 (cF 8 x1 Pt.row),sI 2 x2],[]⟩ _
 unfold impl_SayVecF at H
 refine tG 1 71 64 kr kr ?_
 refine rU 2 kr ?_
 obtain ⟨r1,er1,H⟩ := bind_some H
 refine lV [.rd,.rd] [] (impl_BestVec n x0 x1 r1 er1) kr kr kr kr (.inl rfl) ?_
 refine LAt.movT tOk (ty := 240) (t := 12) (d := 9) (g := none) [(true,(Vec.row r1.1)),(false,[cI r1.2])] _ kr (.inl rfl) kr kr kr kr rfl ?_
 refine uD 5 196 192 kr kr ?_
 refine tG 3 192 192 kr kr ?_
 refine tG 2 64 64 kr kr ?_
 exact te (by obtain rfl := si H; exact fO [(true,[cI r1.1.Root,cI r1.1.Cost,cI r1.1.Hops,cI r1.1.Bridge,cI x2])] kr rfl rfl)
def impl_saidF (n : Nat) (x0 : Net) (x1 : Int) (x2 : Int) : Option (Vec) :=
  ((idx x0.Bridges x1).bind fun v1 => ((idx x0.Bridges x1).bind fun v2 => ((impl_SayVecF n v1.Id v2.Ports x2).bind fun r3 => (some r3))))
theorem impl_said (n : Nat) (x0 : Net) (x1 : Int) (x2 : Int) (r : Vec) (H : impl_saidF n x0 x1 x2 = some r) : LCall Tryz.prog 139 [.val true (CV.frzRow (Net.row x0)),.val false [.lit (.int .i64 x1)],.val false [.lit (.int .i64 x2)]] [.val true (Vec.row r)] [] := by
 refine LCall.of_body tOk Tryz.func139 rfl (c := (.seq (Rg Tryz.f139 0) (.seq (Rd Tryz.f139 1) .ret))) kr (Nat.le_of_ble_eq_true kr) 0 (rs := [.cell 6 162]) rfl [] .nil [(true,(Vec.row r))] [] [] fun cx => ?_
 show Tr _ _ _ ⟨21,0,[sV 0 (CV.frzRow (Net.row x0)),sI 1 x1,sI 2 x2],[]⟩ _
 unfold impl_saidF at H
 refine tG 2 78 72 kr kr ?_
 obtain ⟨v1,ev1,H⟩ := bind_some H
 obtain ⟨v2,ev2,H⟩ := bind_some H
 obtain ⟨r3,er3,H⟩ := bind_some H
 refine Tr.draws mixed 15 kr ⟨21,0,[sA 6 6 5 0],[(6,(Vec.row r3))]⟩ (fun cx => ?_) ?_
 ·refine aU [(0,[]),(1,[13,14]),(2,[])] 12 [⟨[13,14],25,7,8⟩] [2,1,0] rfl kr (fun cx => ?_)
  refine aI 3 25 0 8 9 10 none ⟨(.box 3),[(0,0)],0,false,11,(CV.frzEs (x0.Bridges.map Bridge.row))⟩ x1 (CV.frzRow (Bridge.row v1)) _ kr kr kr kr kr kr rfl (idx_isF ev1) rfl (fun cx => ?_)
  refine aU [(4,[]),(5,[]),(6,[]),(7,[13,14]),(8,[])] 6 [⟨[13,14],25,13,14⟩,⟨[13,14],25,7,8⟩] [8,7,6,5,4,3,2,1,0] rfl kr (fun cx => ?_)
  refine aI 9 25 0 14 15 16 none ⟨(.box 3),[(0,0)],0,false,11,(CV.frzEs (x0.Bridges.map Bridge.row))⟩ x1 (CV.frzRow (Bridge.row v2)) _ kr kr kr kr kr kr rfl (idx_isF ev2) rfl (fun cx => ?_)
  refine aU [(10,[]),(11,[]),(12,[])] 2 [⟨[13,14],25,13,14⟩,⟨[13,14],25,7,8⟩] [12,11,10,9,8,7,6,5,4,3,2,1,0] rfl kr (fun cx => ?_)
  refine b1 13 kr kr ?_
  refine lV [.rd,.rd,.rd] [] (impl_SayVec n v1.Id v2.Ports x2 r3 er3) kr kr kr kr (.inl rfl) ?_
  refine lF kr kr kr ?_
  refine b1 14 kr kr ?_
  refine lU 1 kr ?_
  refine lF kr kr kr ?_
  exact AT.done [6] [6] _ kr kr rfl
 exact te (by obtain rfl := si H; exact fO [(true,(Vec.row r3))] kr rfl rfl)
def impl_isPortF (n : Nat) (x0 : Bridge) (x1 : Int) : Option (Bool) :=
  ((impl_BridgeOkF n x0).bind fun r1 => (bif r1 then ((impl_inF n x1 0 (IntKind.wrap .i64 ((x0.Ports.length : Int) - 1))).bind fun r2 => (some r2)) else (some false)))
theorem impl_isPort (n : Nat) (x0 : Bridge) (x1 : Int) (r : Bool) (H : impl_isPortF n x0 x1 = some r) : LCall Tryz.prog 111 [.val true (CV.frzRow (Bridge.row x0)),.val false [.lit (.int .i64 x1)]] [.val false [.lit (.bool r)]] [] := by
 refine LCall.of_body tOk Tryz.func111 rfl (c := (.seq (Rg Tryz.f111 0) (.seq (Rg Tryz.f111 1) .ret))) kr (Nat.le_of_ble_eq_true kr) 0 (rs := [.tmp 4]) rfl [] .nil [(false,[.lit (.bool r)])] [] [] fun cx => ?_
 show Tr _ _ _ ⟨15,0,[sV 0 (CV.frzRow (Bridge.row x0)),sI 1 x1],[]⟩ _
 unfold impl_isPortF at H
 refine tG 2 6 4 kr kr ?_
 refine rU 1 kr ?_
 obtain ⟨r1,er1,H⟩ := bind_some H
 refine lV [.rd] [] (impl_BridgeOk n x0 r1 er1) kr kr kr kr (.inl rfl) ?_
 refine lU 1 kr ?_
 refine lT ⟨15,0,[sB 7 r1,sB 6 r1,sV 5 (CV.frzRow (Bridge.row x0)),sA 2 2 11 0,sI 1 x1],[(2,(CV.frzRow (Bridge.row x0)))]⟩ kr ?_
 cases h1 : r1
 ·have H := bifF h1 H
  refine uD 8 16 0 kr kr ?_
  exact te (by obtain rfl := si H; exact fO [(false,[cB false])] kr rfl rfl)
 have H := bifT h1 H
 refine lU 3 kr ?_
 refine lL 52 3 182 10 11 (some (2,true)) ⟨(.slot 10),[],0,false,8,(CV.frzEs (x0.Ports.map Pt.row))⟩ (x0.Ports).length _ kr kr kr kr kr (frz_len _ _) rfl ?_
 refine lU 1 kr ?_
 obtain ⟨r2,er2,H⟩ := bind_some H
 refine lV [.rd,.rd,.rd] [] (impl_in n x1 0 (w6 ((x0.Ports.length : Int) - 1)) r2 er2) kr kr kr kr (.inl rfl) ?_
 refine uD 2 16 0 kr kr ?_
 exact te (by obtain rfl := si H; exact fO [(false,[cB r2])] kr rfl rfl)
def impl_moreF (n : Nat) (x0 : Int) : Option (Int) :=
  (some (if 1000000 < (IntKind.wrap .i64 (x0 + 1)) then 1000000 else (IntKind.wrap .i64 (x0 + 1))))
theorem impl_more (n : Nat) (x0 : Int) (r : Int) (H : impl_moreF n x0 = some r) : LCall Tryz.prog 114 [.val false [.lit (.int .i64 x0)]] [.val false [.lit (.int .i64 r)]] [] := by
 refine LCall.of_body tOk Tryz.func114 rfl (c := (.seq (Rg Tryz.f114 0) (.seq (Rg Tryz.f114 1) .ret))) kr (Nat.le_of_ble_eq_true kr) 0 (rs := [.tmp 2]) rfl [] .nil [(false,[.lit (.int .i64 r)])] [] [] fun cx => ?_
 show Tr _ _ _ ⟨6,0,[sI 0 x0],[]⟩ _
 unfold impl_moreF at H
 refine tG 1 1 0 kr kr ?_
 refine tG 4 4 0 kr kr ?_
 exact te (by obtain rfl := si H; exact fO [(false,[cI (if 1000000 < (w6 (x0 + 1)) then 1000000 else (w6 (x0 + 1)))])] kr rfl rfl)
def impl_RoleOfF (n : Nat) (x0 : Int) (x1 : (List Pt)) (x2 : Int) : Option (Int) :=
  ((impl_inF n x2 0 (IntKind.wrap .i64 ((x1.length : Int) - 1))).bind fun r1 => (bif (!r1) then (some 4) else ((idx x1 x2).bind fun v2 => (bif (!v2.Up) then (some 4) else ((impl_BestVecF n x0 x1).bind fun r3 => (bif (r3.2 == x2) then (some 1) else ((idx x1 x2).bind fun v4 => (bif (!v4.Has) then (some 2) else ((impl_SayVecF n x0 x1 x2).bind fun r5 => ((idx x1 x2).bind fun v6 => ((impl_LessVecF n r5 v6.Heard).bind fun r7 => (bif r7 then (some 2) else (some 3)))))))))))))
noncomputable abbrev G163 (k : Nat) := Rg Tryz.f163 k
theorem impl_RoleOf (n : Nat) (x0 : Int) (x1 : (List Pt)) (x2 : Int) (r : Int) (H : impl_RoleOfF n x0 x1 x2 = some r) : LCall Tryz.prog 163 [.val false [.lit (.int .i64 x0)],.val false [.sl false 8 (CV.frzEs (x1.map Pt.row))],.val false [.lit (.int .i64 x2)]] [.val false [.lit (.int .i64 r)]] [] := by
 refine LCall.of_body tOk Tryz.func163 rfl (c := (.seq (G163 0) (.seq (.seq (G163 1) (.cond (.tmp 22) (.seq (G163 2) .ret) .skip)) (.seq (G163 3) (.seq (.block 0 (.seq (G163 4) (.cond (.tmp 29) (.seq (G163 5) .ret) (.seq (Rd Tryz.f163 6) (.cond (.tmp 33) (.seq (G163 7) .ret) .skip))))) (.seq (G163 8) .ret)))))) kr (Nat.le_of_ble_eq_true kr) 0 (rs := [.tmp 6]) rfl [] .nil [(false,[.lit (.int .i64 r)])] [] [] fun cx => ?_
 show Tr _ _ _ ⟨52,0,[sI 0 x0,sC 1 (cF 8 x1 Pt.row),sI 2 x2],[]⟩ _
 unfold impl_RoleOfF at H
 refine tG 1 7 0 kr kr ?_
 refine tS ?_
 refine rU 2 kr ?_
 refine lL 52 3 182 10 11 none ⟨(.slot 10),[],0,false,8,(CV.frzEs (x1.map Pt.row))⟩ (x1).length _ kr kr kr kr kr (frz_len _ _) rfl ?_
 refine lU 1 kr ?_
 obtain ⟨r1,er1,H⟩ := bind_some H
 refine lV [.rd,.rd,.rd] [] (impl_in n x2 0 (w6 ((x1.length : Int) - 1)) r1 er1) kr kr kr kr (.inl rfl) ?_
 refine lU 2 kr ?_
 refine lT ⟨52,0,[sB 15 (!r1),sB 14 (!r1),sB 13 r1,sI 12 (w6 ((x1.length : Int) - 1)),sI 11 (x1.length : Int),sC 10 (cF 8 x1 Pt.row),sI 9 x2,sI 0 x0,sC 1 (cF 8 x1 Pt.row),sI 2 x2],[]⟩ kr ?_
 cases h1 : (!r1)
 ·have H := bifF h1 H
  refine lU 2 kr ?_
  obtain ⟨v2,ev2,H⟩ := bind_some H
  refine lI 52 0 16 17 18 (some (6,false)) ⟨(.slot 16),[],0,false,8,(CV.frzEs (x1.map Pt.row))⟩ x2 (Pt.row v2) _ kr kr kr kr rfl (idx_isF ev2) rfl ?_
  refine uD 4 4194311 0 kr kr ?_
  obtain ⟨h2,H⟩ | ⟨h2,H⟩ := bC H
  ·refine tF h2 kr ?_
   refine tK ?_
   refine rU 2 kr ?_
   obtain ⟨r3,er3,H⟩ := bind_some H
   refine lV [.rd,.rd] [] (impl_BestVec n x0 x1 r3 er3) kr kr kr kr (.inl rfl) ?_
   refine LAt.movT tOk (ty := 240) (t := 26) (d := 23) (g := none) [(true,(Vec.row r3.1)),(false,[cI r3.2])] _ kr (.inl rfl) kr kr kr kr rfl ?_
   refine uD 5 263 0 kr kr ?_
   refine tS ?_
   refine tB ?_
   refine tG 4 536870919 0 kr kr ?_
   obtain ⟨h3,H⟩ | ⟨h3,H⟩ := bC H
   ·refine tF h3 kr ?_
    obtain ⟨v4,ev4,H⟩ := bind_some H
    refine tO ⟨52,0,[sB 29 (r3.2 == x2),sI 0 x0,sC 1 (cF 8 x1 Pt.row),sI 2 x2],[]⟩ kr ?_
    cases h4 : (!v4.Has)
    ·have H := bifF h4 H
     obtain ⟨r5,er5,H⟩ := bind_some H
     obtain ⟨v6,ev6,H⟩ := bind_some H
     obtain ⟨r7,er7,H⟩ := bind_some H
     refine Tr.draws mixed 19 kr ⟨52,0,[sB 33 r7],[]⟩ (fun cx => ?_) ?_
     ·refine aU [(0,[]),(1,[])] 17 [] [1,0] rfl kr (fun cx => ?_)
      refine aI 2 52 0 34 35 36 none ⟨(.slot 34),[],0,false,8,(CV.frzEs (x1.map Pt.row))⟩ x2 (Pt.row v4) _ kr kr kr kr kr kr rfl (idx_isF ev4) rfl (fun cx => ?_)
      refine aU [(3,[]),(4,[]),(5,[]),(6,[])] 12 [] [6,5,4,3,2,1,0] rfl kr (fun cx => ?_)
      refine aT ⟨52,0,[sB 40 (!v4.Has),sB 39 (!v4.Has),sB 38 v4.Has,(37,.fad (((Pt.row v4).drop 2))),(36,.fad ((Pt.row v4))),sI 35 x2,sC 34 (cF 8 x1 Pt.row),sB 29 (r3.2 == x2),sI 0 x0,sC 1 (cF 8 x1 Pt.row),sI 2 x2],[]⟩ kr ?_
      rw [h4]
      refine aU [(7,[]),(8,[]),(9,[]),(11,[]),(12,[])] 7 [] [12,11,9,8,7,6,5,4,3,2,1,0] rfl kr (fun cx => ?_)
      refine aI 13 52 0 45 46 47 (some (6,false)) ⟨(.slot 45),[],0,false,8,(CV.frzEs (x1.map Pt.row))⟩ x2 (Pt.row v6) _ kr kr kr kr kr kr rfl (idx_isF ev6) rfl (fun cx => ?_)
      refine aU [(14,[]),(15,[])] 4 [] [15,14,13,12,11,9,8,7,6,5,4,3,2,1,0] rfl kr (fun cx => ?_)
      refine b1 10 kr kr ?_
      refine lV [.rd,.rd,.rd] [] (impl_SayVec n x0 x1 x2 r5 er5) kr kr kr kr (.inl rfl) ?_
      refine lF kr kr kr ?_
      refine b1 16 kr kr ?_
      refine lV [.rd,.rd] [] (impl_LessVec n r5 v6.Heard r7 er7) kr kr kr kr (.inl rfl) ?_
      refine lF kr kr kr ?_
      refine aU [(17,[]),(18,[])] 0 [] [18,17,16,10,15,14,13,12,11,9,8,7,6,5,4,3,2,1,0] rfl kr (fun cx => ?_)
      exact AT.done [33] [] _ kr kr rfl
     cases h5 : r7
     ·have H := bifF h5 H
      refine tf kr ?_
      refine tK ?_
      refine tG 1 64 0 kr kr ?_
      exact te (by obtain rfl := si H; exact fO [(false,[cI 3])] kr rfl rfl)
     have H := bifT h5 H
     refine tt kr ?_
     refine tG 1 64 0 kr kr ?_
     exact te (by obtain rfl := si H; exact fO [(false,[cI 2])] kr rfl rfl)
    have H := bifT h4 H
    refine Tr.draws mixed 19 kr ⟨52,0,[sB 33 true],[]⟩ (fun cx => ?_) ?_
    ·refine aU [(0,[]),(1,[])] 17 [] [1,0] rfl kr (fun cx => ?_)
     refine aI 2 52 0 34 35 36 none ⟨(.slot 34),[],0,false,8,(CV.frzEs (x1.map Pt.row))⟩ x2 (Pt.row v4) _ kr kr kr kr kr kr rfl (idx_isF ev4) rfl (fun cx => ?_)
     refine aU [(3,[]),(4,[]),(5,[]),(6,[])] 12 [] [6,5,4,3,2,1,0] rfl kr (fun cx => ?_)
     refine aT ⟨52,0,[sB 40 (!v4.Has),sB 39 (!v4.Has),sB 38 v4.Has,(37,.fad (((Pt.row v4).drop 2))),(36,.fad ((Pt.row v4))),sI 35 x2,sC 34 (cF 8 x1 Pt.row),sB 29 (r3.2 == x2),sI 0 x0,sC 1 (cF 8 x1 Pt.row),sI 2 x2],[]⟩ kr ?_
     rw [h4]
     refine aU [(7,[]),(8,[]),(9,[]),(10,[]),(11,[]),(12,[]),(13,[]),(14,[]),(15,[]),(16,[]),(17,[]),(18,[])] 0 [] [18,17,16,15,14,13,12,11,10,9,8,7,6,5,4,3,2,1,0] rfl kr (fun cx => ?_)
     exact AT.done [33] [] _ kr kr rfl
    refine tt kr ?_
    refine tG 1 64 0 kr kr ?_
    exact te (by obtain rfl := si H; exact fO [(false,[cI 2])] kr rfl rfl)
   refine tT h3 kr ?_
   refine tG 1 64 0 kr kr ?_
   exact te (by obtain rfl := si H; exact fO [(false,[cI 1])] kr rfl rfl)
  refine tT h2 kr ?_
  refine tG 1 64 0 kr kr ?_
  exact te (by obtain rfl := si H; exact fO [(false,[cI 4])] kr rfl rfl)
 have H := bifT h1 H
 refine uD 7 4194311 0 kr kr ?_
 refine tt kr ?_
 refine tG 1 64 0 kr kr ?_
 exact te (by obtain rfl := si H; exact fO [(false,[cI 4])] kr rfl rfl)
def impl_Sends_J1 (n : Nat) (y3 : Int) : Option (Int) :=
  (some y3)
def impl_Sends_L2 (n : Nat) : Nat → Int → (List Pt) → Int → Int → Option ((Int) ⊕ (Int))
  | 0,_,_,_,_ => none
  | mo4 + 1,x0,x1,y1,y2 => (bif (decide (y1 < (x1.length : Int))) then (bif (decide (y1 < 6)) then ((impl_RoleOfF n x0 x1 y1).bind fun r5 => (bif (r5 == 1) then (bif (decide ((0 : Int) ≤ y1)) then (impl_Sends_L2 n mo4 x0 x1 (IntKind.wrap .i64 (y1 + 1)) (IntKind.wrap .i64 (BitVec.ofInt (IntKind.bits .i64) y2 ||| BitVec.ofInt (IntKind.bits .i64) (IntKind.wrap .i64 (1 * 2 ^ min ((y1 : Int)).toNat (IntKind.bits .i64)))).toNat)) else none) else (bif (r5 == 2) then (bif (decide ((0 : Int) ≤ y1)) then (impl_Sends_L2 n mo4 x0 x1 (IntKind.wrap .i64 (y1 + 1)) (IntKind.wrap .i64 (BitVec.ofInt (IntKind.bits .i64) y2 ||| BitVec.ofInt (IntKind.bits .i64) (IntKind.wrap .i64 (1 * 2 ^ min ((y1 : Int)).toNat (IntKind.bits .i64)))).toNat)) else none) else (impl_Sends_L2 n mo4 x0 x1 (IntKind.wrap .i64 (y1 + 1)) y2)))) else (some (Sum.inl y2))) else (some (Sum.inl y2)))
def impl_SendsF (n : Nat) (x0 : Int) (x1 : (List Pt)) : Option (Int) :=
  ((impl_Sends_L2 n n x0 x1 0 0).bind fun o => match o with | .inl y3 => (impl_Sends_J1 n y3) | .inr r => some r)
noncomputable abbrev G59 (k : Nat) := Rg Tryz.f59 k
theorem impl_Sends (n : Nat) (x0 : Int) (x1 : (List Pt)) (r : Int) (H : impl_SendsF n x0 x1 = some r) : LCall Tryz.prog 59 [.val false [.lit (.int .i64 x0)],.val false [.sl false 8 (CV.frzEs (x1.map Pt.row))]] [.val false [.lit (.int .i64 r)]] [] := by
 refine LCall.of_body tOk Tryz.func59 rfl (c := (.seq (G59 0) (.seq (G59 1) (.seq (.seq (G59 2) (.block 0 (.loop (.seq (.seq (G59 3) (.cond (.tmp 15) .skip (.exit 0))) (.seq (.block 1 (.seq (G59 5) (.seq (G59 6) (.cond (.tmp 27) (G59 7) .skip)))) (G59 4)))))) (.seq (G59 8) .ret))))) kr (Nat.le_of_ble_eq_true kr) 0 (rs := [.tmp 4]) rfl [] .nil [(false,[.lit (.int .i64 r)])] [] [] fun cx => ?_
 show Tr _ _ _ ⟨33,0,[sI 0 x0,sC 1 (cF 8 x1 Pt.row)],[]⟩ _
 unfold impl_SendsF at H
 refine tG 1 3 0 kr kr ?_
 refine tG 1 35 0 kr kr ?_
 refine tS ?_
 refine tG 1 99 0 kr kr ?_
 obtain ⟨o4,eo4,Ho4⟩ := bind_some H
 clear H
 refine Tr.mid (ι := Int) (fun v => ⟨33,0,[sI 5 v],[]⟩) (fun v => impl_Sends_J1 n v = some r) ?_ ?_
 ·refine tB ?_
  refine Tr.loop (ι := Nat × (Int × Int)) (fun v => ⟨33,0,[sI 6 v.2.1,sI 5 v.2.2,sI 0 x0,sC 1 (cF 8 x1 Pt.row)],[]⟩) (fun v => impl_Sends_L2 n v.1 x0 x1 v.2.1 v.2.2 = some o4) (fun v => v.1) (n,(0,0)) eo4 (St.sub_of [6,5,0,1] [] kr) ?_
  rintro ⟨mo4,y1,y2⟩ H
  have H : impl_Sends_L2 n mo4 x0 x1 y1 y2 = some o4 := H
  obtain _ | mo4 := mo4
  ·cases (show (none : Option _) = some o4 from H)
  rw [impl_Sends_L2] at H
  refine tS ?_
  refine rU 2 kr ?_
  refine lL 52 3 182 9 10 none ⟨(.slot 9),[],0,false,8,(CV.frzEs (x1.map Pt.row))⟩ (x1).length _ kr kr kr kr kr (frz_len _ _) rfl ?_
  refine lU 2 kr ?_
  refine lT ⟨33,0,[sB 12 (decide (y1 < (x1.length : Int))),sB 11 (decide (y1 < (x1.length : Int))),sI 10 (x1.length : Int),sC 9 (cF 8 x1 Pt.row),sI 8 y1,sI 6 y1,sI 5 y2,sI 0 x0,sC 1 (cF 8 x1 Pt.row)],[]⟩ kr ?_
  cases h1 : (decide (y1 < (x1.length : Int)))
  ·have H := bifF h1 H
   refine uD 3 32867 0 kr kr ?_
   refine tf kr ?_
   refine Tr.exit ?_
   refine And.intro (fun _ => ?_) (fun h => absurd rfl h)
   obtain rfl := si H
   have H := Ho4
   dsimp only at H
   exact jn y2 H (sB_ [5] [] kr)
  have H := bifT h1 H
  refine uD 3 32867 0 kr kr ?_
  obtain ⟨h2,H⟩ | ⟨h2,H⟩ := bC H
  ·refine tF h2 kr ?_
   refine Tr.exit ?_
   refine And.intro (fun _ => ?_) (fun h => absurd rfl h)
   obtain rfl := si H
   have H := Ho4
   dsimp only at H
   exact jn y2 H (sB_ [5] [] kr)
  refine tT h2 kr ?_
  refine tK ?_
  refine tS ?_
  refine tB ?_
  refine rU 3 kr ?_
  obtain ⟨r5,er5,H⟩ := bind_some H
  refine lV [.rd,.rd,.rd] [] (impl_RoleOf n x0 x1 y1 r5 er5) kr kr kr kr (.inl rfl) ?_
  refine uD 1 227 0 kr kr ?_
  refine rU 3 kr ?_
  refine lT ⟨33,0,[sB 24 (r5 == 1),sB 23 (r5 == 1),sI 22 r5,sI 7 r5,sI 6 y1,sI 5 y2,sI 0 x0,sC 1 (cF 8 x1 Pt.row)],[]⟩ kr ?_
  cases h3 : (r5 == 1)
  ·have H := bifF h3 H
   refine uD 3 134217827 0 kr kr ?_
   obtain ⟨h4,H⟩ | ⟨h4,H⟩ := bC H
   ·refine tF h4 kr ?_
    refine tK ?_
    refine tE 3 99 0 kr kr ?_
    exact jn (mo4,((w6 (y1 + 1)),y2)) H (sM mo4 [6,5,0,1] [] kr)
   refine tT h4 kr ?_
   refine Tr.at ?_
   refine lU 2 kr ?_
   obtain ⟨hg6,H⟩ := guard_some H
   refine LAt.binC tOk (op := .shl) (t := 3) (ty := 3) (ty' := 3) (x := (.const (.int .i64 1))) (y := (.tmp 29)) (d := 30) (g := none) (.int .i64 1) (.int .i64 y1) (.int .i64 (w6 (1 * 2 ^ min ((y1 : Int)).toNat (IntKind.bits .i64)))) _ kr kr kr kr kr (φ := (0 : Int) ≤ y1) kr (of_decide_eq_true hg6) rfl ?_
   refine uD 2 99 0 kr kr ?_
   refine tE 3 99 0 kr kr ?_
   exact jn (mo4,((w6 (y1 + 1)),(w6 (BitVec.ofInt (IntKind.bits .i64) y2 ||| BitVec.ofInt (IntKind.bits .i64) (w6 (1 * 2 ^ min ((y1 : Int)).toNat (IntKind.bits .i64)))).toNat))) H (sM mo4 [6,5,0,1] [] kr)
  have H := bifT h3 H
  refine uD 3 134217827 0 kr kr ?_
  refine tt kr ?_
  refine Tr.at ?_
  refine lU 2 kr ?_
  obtain ⟨hg7,H⟩ := guard_some H
  refine LAt.binC tOk (op := .shl) (t := 3) (ty := 3) (ty' := 3) (x := (.const (.int .i64 1))) (y := (.tmp 29)) (d := 30) (g := none) (.int .i64 1) (.int .i64 y1) (.int .i64 (w6 (1 * 2 ^ min ((y1 : Int)).toNat (IntKind.bits .i64)))) _ kr kr kr kr kr (φ := (0 : Int) ≤ y1) kr (of_decide_eq_true hg7) rfl ?_
  refine uD 2 99 0 kr kr ?_
  refine tE 3 99 0 kr kr ?_
  exact jn (mo4,((w6 (y1 + 1)),(w6 (BitVec.ofInt (IntKind.bits .i64) y2 ||| BitVec.ofInt (IntKind.bits .i64) (w6 (1 * 2 ^ min ((y1 : Int)).toNat (IntKind.bits .i64)))).toNat))) H (sM mo4 [6,5,0,1] [] kr)
 rintro y3 H
 have H : (impl_Sends_J1 n y3) = some r := H
 unfold impl_Sends_J1 at H
 refine tG 2 16 0 kr kr ?_
 exact te (by obtain rfl := si H; exact fO [(false,[cI y3])] kr rfl rfl)
def impl_hasPortF (n : Nat) (x0 : Int) (x1 : Int) : Option (Bool) :=
  ((impl_inF n x1 0 62).bind fun r1 => (bif r1 then (bif (decide ((0 : Int) ≤ x1)) then (some ((IntKind.wrap .i64 (BitVec.ofInt (IntKind.bits .i64) (Int.fdiv x0 (2 ^ min ((x1 : Int)).toNat (IntKind.bits .i64))) &&& BitVec.ofInt (IntKind.bits .i64) 1).toNat) == 1)) else none) else (some false)))
theorem impl_hasPort (n : Nat) (x0 : Int) (x1 : Int) (r : Bool) (H : impl_hasPortF n x0 x1 = some r) : LCall Tryz.prog 113 [.val false [.lit (.int .i64 x0)],.val false [.lit (.int .i64 x1)]] [.val false [.lit (.bool r)]] [] := by
 refine LCall.of_body tOk Tryz.func113 rfl (c := (.seq (Rg Tryz.f113 0) (.seq (Rg Tryz.f113 1) .ret))) kr (Nat.le_of_ble_eq_true kr) 0 (rs := [.tmp 4]) rfl [] .nil [(false,[.lit (.bool r)])] [] [] fun cx => ?_
 show Tr _ _ _ ⟨14,0,[sI 0 x0,sI 1 x1],[]⟩ _
 unfold impl_hasPortF at H
 refine tG 1 3 0 kr kr ?_
 refine rU 1 kr ?_
 obtain ⟨r1,er1,H⟩ := bind_some H
 refine lV [.rd,.rd,.rd] [] (impl_in n x1 0 62 r1 er1) kr kr kr kr (.inl rfl) ?_
 refine lU 1 kr ?_
 refine lT ⟨14,0,[sB 7 r1,sB 6 r1,sI 5 x1,sI 0 x0,sI 1 x1],[]⟩ kr ?_
 cases h1 : r1
 ·have H := bifF h1 H
  refine uD 7 16 0 kr kr ?_
  exact te (by obtain rfl := si H; exact fO [(false,[cB false])] kr rfl rfl)
 have H := bifT h1 H
 refine lU 2 kr ?_
 obtain ⟨hg2,H⟩ := guard_some H
 refine LAt.binC tOk (op := .shr) (t := 3) (ty := 3) (ty' := 3) (x := (.tmp 8)) (y := (.tmp 9)) (d := 10) (g := (some (2,true))) (.int .i64 x0) (.int .i64 x1) (.int .i64 (Int.fdiv x0 (2 ^ min ((x1 : Int)).toNat (IntKind.bits .i64)))) _ kr kr kr kr kr (φ := (0 : Int) ≤ x1) kr (of_decide_eq_true hg2) rfl ?_
 refine uD 4 16 0 kr kr ?_
 exact te (by obtain rfl := si H; exact fO [(false,[cB ((w6 (BitVec.ofInt (IntKind.bits .i64) (Int.fdiv x0 (2 ^ min ((x1 : Int)).toNat (IntKind.bits .i64))) &&& BitVec.ofInt (IntKind.bits .i64) 1).toNat) == 1)])] kr rfl rfl)
def impl_FlushPort_J1 (n : Nat) (y3 : (List Fent)) : Option ((List Fent)) :=
  (some y3)
def impl_FlushPort_L2 (n : Nat) : Nat → (List Fent) → Int → Int → (List Fent) → Option (((List Fent)) ⊕ ((List Fent)))
  | 0,_,_,_,_ => none
  | mo4 + 1,x0,x1,y1,y2 => (bif (decide (y1 < (x0.length : Int))) then ((idx x0 y1).bind fun v5 => (bif v5.Static then (bif (decide (y2.length + [v5].length ≤ 268435456)) then (impl_FlushPort_L2 n mo4 x0 x1 (IntKind.wrap .i64 (y1 + 1)) (y2 ++ [v5])) else none) else (bif (v5.Port != x1) then (bif (decide (y2.length + [v5].length ≤ 268435456)) then (impl_FlushPort_L2 n mo4 x0 x1 (IntKind.wrap .i64 (y1 + 1)) (y2 ++ [v5])) else none) else (impl_FlushPort_L2 n mo4 x0 x1 (IntKind.wrap .i64 (y1 + 1)) y2)))) else (some (Sum.inl y2)))
def impl_FlushPortF (n : Nat) (x0 : (List Fent)) (x1 : Int) : Option ((List Fent)) :=
  ((impl_FlushPort_L2 n n x0 x1 0 ([] : List Fent)).bind fun o => match o with | .inl y3 => (impl_FlushPort_J1 n y3) | .inr r => some r)
noncomputable abbrev G237 (k : Nat) := Rg Tryz.f237 k
theorem impl_FlushPort (n : Nat) (x0 : (List Fent)) (x1 : Int) (r : (List Fent)) (H : impl_FlushPortF n x0 x1 = some r) : LCall Tryz.prog 237 [.val false [.sl false 5 (CV.frzEs (x0.map Fent.row))],.val false [.lit (.int .i64 x1)]] [.val false [.sl true 5 (r.map Fent.row)]] [] := by
 refine LCall.of_body tOk Tryz.func237 rfl (c := (.seq (G237 0) (.seq (G237 1) (.seq (.seq (G237 2) (.block 0 (.loop (.seq (G237 3) (.seq (.cond (.tmp 11) .skip (.exit 0)) (.seq (.block 1 (.seq (G237 4) (.seq (G237 5) (.cond (.tmp 21) (G237 6) .skip)))) (G237 7))))))) (.seq (G237 8) .ret))))) kr (Nat.le_of_ble_eq_true kr) 0 (rs := [.tmp 4]) rfl [] .nil [(false,[.sl true 5 (r.map Fent.row)])] [] [] fun cx => ?_
 show Tr _ _ _ ⟨28,0,[sC 0 (cF 5 x0 Fent.row),sI 1 x1],[]⟩ _
 unfold impl_FlushPortF at H
 refine tG 1 3 0 kr kr ?_
 refine tG 1 35 0 kr kr ?_
 refine tS ?_
 refine rU 1 kr ?_
 refine lL 53 3 184 8 9 none ⟨(.slot 8),[],0,false,5,(CV.frzEs (x0.map Fent.row))⟩ (x0).length _ kr kr kr kr kr (frz_len _ _) rfl ?_
 refine uD 1 1826 0 kr kr ?_
 obtain ⟨o4,eo4,Ho4⟩ := bind_some H
 clear H
 refine Tr.mid (ι := (List Fent)) (fun v => ⟨28,0,[sC 5 (cL 5 v Fent.row)],[]⟩) (fun v => impl_FlushPort_J1 n v = some r) ?_ ?_
 ·refine tB ?_
  refine Tr.loop (ι := Nat × (Int × (List Fent))) (fun v => ⟨28,0,[sI 10 v.2.1,sI 9 (x0.length : Int),sC 8 (cF 5 x0 Fent.row),sC 5 (cL 5 v.2.2 Fent.row),sI 1 x1],[]⟩) (fun v => impl_FlushPort_L2 n v.1 x0 x1 v.2.1 v.2.2 = some o4) (fun v => v.1) (n,(0,([] : List Fent))) eo4 (St.sub_of [10,9,8,5,1] [] kr) ?_
  rintro ⟨mo4,y1,y2⟩ H
  have H : impl_FlushPort_L2 n mo4 x0 x1 y1 y2 = some o4 := H
  obtain _ | mo4 := mo4
  ·cases (show (none : Option _) = some o4 from H)
  rw [impl_FlushPort_L2] at H
  refine tG 1 3874 0 kr kr ?_
  refine tS ?_
  obtain ⟨h1,H⟩ | ⟨h1,H⟩ := bC H
  ·refine tF h1 kr ?_
   refine Tr.exit ?_
   refine And.intro (fun _ => ?_) (fun h => absurd rfl h)
   obtain rfl := si H
   have H := Ho4
   dsimp only at H
   exact jn y2 H (sB_ [5] [] kr)
  refine tT h1 kr ?_
  refine tK ?_
  refine tS ?_
  refine tB ?_
  refine tR ?_
  obtain ⟨v5,ev5,H⟩ := bind_some H
  refine lI 53 0 8 10 12 none ⟨(.slot 8),[],0,false,5,(CV.frzEs (x0.map Fent.row))⟩ y1 (Fent.row v5) _ kr kr kr kr rfl (idx_isF ev5) rfl ?_
  refine uD 3 1954 128 kr kr ?_
  refine tS ?_
  refine Tr.at ?_
  refine lU 3 kr ?_
  refine lT ⟨28,0,[sB 16 v5.Static,sB 15 v5.Static,sA 14 7 5 4,sA 7 7 5 0,sI 10 y1,sI 9 (x0.length : Int),sC 8 (cF 5 x0 Fent.row),sC 5 (cL 5 y2 Fent.row),sI 1 x1],[(7,(Fent.row v5))]⟩ kr ?_
  cases h2 : v5.Static
  ·have H := bifF h2 H
   refine uD 5 2099106 128 kr kr ?_
   obtain ⟨h3,H⟩ | ⟨h3,H⟩ := bC H
   ·refine tF h3 kr ?_
    refine tK ?_
    refine tE 2 1826 0 kr kr ?_
    exact jn (mo4,((w6 (y1 + 1)),y2)) H (sM mo4 [10,9,8,5,1] [] kr)
   refine tT h3 kr ?_
   refine Tr.at ?_
   refine lU 3 kr ?_
   obtain ⟨hg6,H⟩ := guard_some H
   refine LAt.appMU tOk (t := 53) (ty := 53) (e := 184) (x := (.tmp 22)) (y := (.tmp 24)) (d := 25) (g := none) (tI 184) Fent.row y2 [v5] kr kr kr kr kr kr kr kr kr kr hg6 ?_
   refine LAt.moveU (T := lk tab) (ty := 53) (x := (.tmp 25)) (d := 5) (g := none) false [cL 5 (y2 ++ [v5]) Fent.row] kr kr kr kr kr ?_
   refine lD 1826 0 kr ?_
   refine tE 2 1826 0 kr kr ?_
   exact jn (mo4,((w6 (y1 + 1)),(y2 ++ [v5]))) H (sM mo4 [10,9,8,5,1] [] kr)
  have H := bifT h2 H
  refine uD 5 2099106 128 kr kr ?_
  refine tt kr ?_
  refine Tr.at ?_
  refine lU 3 kr ?_
  obtain ⟨hg7,H⟩ := guard_some H
  refine LAt.appMU tOk (t := 53) (ty := 53) (e := 184) (x := (.tmp 22)) (y := (.tmp 24)) (d := 25) (g := none) (tI 184) Fent.row y2 [v5] kr kr kr kr kr kr kr kr kr kr hg7 ?_
  refine LAt.moveU (T := lk tab) (ty := 53) (x := (.tmp 25)) (d := 5) (g := none) false [cL 5 (y2 ++ [v5]) Fent.row] kr kr kr kr kr ?_
  refine lD 1826 0 kr ?_
  refine tE 2 1826 0 kr kr ?_
  exact jn (mo4,((w6 (y1 + 1)),(y2 ++ [v5]))) H (sM mo4 [10,9,8,5,1] [] kr)
 rintro y3 H
 have H : (impl_FlushPort_J1 n y3) = some r := H
 unfold impl_FlushPort_J1 at H
 refine tG 2 48 0 kr kr ?_
 exact te (by obtain rfl := si H; exact fO [(false,[cL 5 y3 Fent.row])] kr rfl rfl)
def impl_Bridge_turn_J1 (n : Nat) (r1 : Int) (x0 : Bridge) (y5 : (List Fent)) : Option (Bridge) :=
  (some (⟨x0.Id,x0.Name,x0.Ports,y5,x0.V,x0.Ticks,x0.Parse,x0.Word,x0.Drops,r1⟩ : Bridge))
def impl_Bridge_turn_L2 (n : Nat) : Nat → Int → Bridge → Int → (List Fent) → Option (((List Fent)) ⊕ (Bridge))
  | 0,_,_,_,_ => none
  | mo6 + 1,r2,x0,y3,y4 => (bif (decide (y3 < (x0.Ports.length : Int))) then ((impl_hasPortF n r2 y3).bind fun r7 => (bif (!r7) then ((impl_FlushPortF n y4 y3).bind fun r8 => (impl_Bridge_turn_L2 n mo6 r2 x0 (IntKind.wrap .i64 (y3 + 1)) r8)) else (impl_Bridge_turn_L2 n mo6 r2 x0 (IntKind.wrap .i64 (y3 + 1)) y4))) else (some (Sum.inl y4)))
def impl_Bridge_turnF (n : Nat) (x0 : Bridge) : Option (Bridge) :=
  ((impl_moreF n x0.Vers).bind fun r1 => ((impl_SendsF n x0.Id x0.Ports).bind fun r2 => ((impl_Bridge_turn_L2 n n r2 x0 0 x0.F).bind fun o => match o with | .inl y5 => (impl_Bridge_turn_J1 n r1 x0 y5) | .inr r => some r)))
noncomputable abbrev G183 (k : Nat) := Rg Tryz.f183 k
theorem impl_Bridge_turn (n : Nat) (x0 : Bridge) (r : Bridge) (H : impl_Bridge_turnF n x0 = some r) : LCall Tryz.prog 183 [.ptr (Bridge.row x0)] [] [(0,(Bridge.row r))] := by
 refine LCall.of_body tOk Tryz.func183 rfl (c := (.seq (G183 0) (.seq (Rd Tryz.f183 1) (.seq (G183 2) (.block 0 (.loop (.seq (G183 3) (.seq (.cond (.tmp 27) .skip (.exit 0)) (.seq (.block 1 (.seq (G183 4) (.seq (G183 5) (.cond (.tmp 32) (G183 6) .skip)))) (G183 7)))))))))) kr (Nat.le_of_ble_eq_true kr) 1 (rs := []) rfl [] .nil [] [] [(0,(Bridge.row r))] fun cx => ?_
 show Tr _ _ _ ⟨43,1,[sA 0 0 11 0],[(0,(Bridge.row x0))]⟩ _
 unfold impl_Bridge_turnF at H
 refine rU 5 kr ?_
 obtain ⟨r1,er1,H⟩ := bind_some H
 refine lV [.rd] [] (impl_more n x0.Vers r1 er1) kr kr kr kr (.inl rfl) ?_
 refine uD 3 1 1 kr kr ?_
 obtain ⟨r2,er2,H⟩ := bind_some H
 refine Tr.draws mixed 10 kr ⟨43,1,[sI 2 r2,sA 0 0 11 0],[(0,[cI x0.Id,cS x0.Name,cL 8 x0.Ports Pt.row,cL 5 x0.F Fent.row,cL 3 x0.V.Rows Vrow.row,cL 1 x0.V.Pvid intRow,cI x0.Ticks,cI x0.Parse,cI x0.Word,cI x0.Drops,cI r1])]⟩ (fun cx => ?_) ?_
 ·refine aU [(0,[]),(1,[]),(2,[]),(3,[8]),(4,[]),(5,[]),(6,[]),(7,[8])] 2 [⟨[8],52,18,19⟩,⟨[8],3,14,15⟩] [7,6,5,4,3,2,1,0] rfl kr (fun cx => ?_)
  refine b1 8 kr kr ?_
  refine lV [.rd,.rd] [.box 0] (impl_Sends n x0.Id x0.Ports r2 er2) kr kr kr kr (.inr (rets_cons (mine_cons mine_lit mine_nil) rets_nil)) ?_
  refine lF kr kr kr ?_
  refine aU [(9,[])] 0 [⟨[8],52,18,19⟩,⟨[8],3,14,15⟩] [9,8,7,6,5,4,3,2,1,0] rfl kr (fun cx => ?_)
  exact AT.done [2,0] [0] _ kr kr rfl
 refine rU 4 kr ?_
 refine lL 52 3 182 24 25 none ⟨(.box 0),[(0,0)],2,true,8,(x0.Ports.map Pt.row)⟩ (x0.Ports).length _ kr kr kr kr kr (map_len _ _) rfl ?_
 refine uD 1 100663301 1 kr kr ?_
 obtain ⟨o6,eo6,Ho6⟩ := bind_some H
 clear H
 refine Tr.mid (ι := (List Fent)) (fun v => ⟨43,1,[sA 0 0 11 0],[(0,[cI x0.Id,cS x0.Name,cL 8 x0.Ports Pt.row,cL 5 v Fent.row,cL 3 x0.V.Rows Vrow.row,cL 1 x0.V.Pvid intRow,cI x0.Ticks,cI x0.Parse,cI x0.Word,cI x0.Drops,cI r1])]⟩) (fun v => impl_Bridge_turn_J1 n r1 x0 v = some r) ?_ ?_
 ·refine tB ?_
  refine Tr.loop (ι := Nat × (Int × (List Fent))) (fun v => ⟨43,1,[sI 26 v.2.1,sI 25 (x0.Ports.length : Int),sI 2 r2,sA 0 0 11 0],[(0,[cI x0.Id,cS x0.Name,cL 8 x0.Ports Pt.row,cL 5 v.2.2 Fent.row,cL 3 x0.V.Rows Vrow.row,cL 1 x0.V.Pvid intRow,cI x0.Ticks,cI x0.Parse,cI x0.Word,cI x0.Drops,cI r1])]⟩) (fun v => impl_Bridge_turn_L2 n v.1 r2 x0 v.2.1 v.2.2 = some o6) (fun v => v.1) (n,(0,x0.F)) eo6 (St.sub_of [26,25,2,0] [0] kr) ?_
  rintro ⟨mo6,y3,y4⟩ H
  have H : impl_Bridge_turn_L2 n mo6 r2 x0 y3 y4 = some o6 := H
  obtain _ | mo6 := mo6
  ·cases (show (none : Option _) = some o6 from H)
  rw [impl_Bridge_turn_L2] at H
  refine tG 1 234881029 1 kr kr ?_
  refine tS ?_
  obtain ⟨h1,H⟩ | ⟨h1,H⟩ := bC H
  ·refine tF h1 kr ?_
   refine Tr.exit ?_
   refine And.intro (fun _ => ?_) (fun h => absurd rfl h)
   obtain rfl := si H
   have H := Ho6
   dsimp only at H
   exact jn y4 H (sB_ [0] [0] kr)
  refine tT h1 kr ?_
  refine tK ?_
  refine tS ?_
  refine tB ?_
  refine tG 2 100663309 1 kr kr ?_
  refine rU 2 kr ?_
  obtain ⟨r7,er7,H⟩ := bind_some H
  refine lV [.rd,.rd] [] (impl_hasPort n r2 y3 r7 er7) kr kr kr kr (.inl rfl) ?_
  refine uD 1 4395630605 1 kr kr ?_
  obtain ⟨h2,H⟩ | ⟨h2,H⟩ := bC H
  ·refine tF h2 kr ?_
   refine tK ?_
   refine tE 2 100663301 1 kr kr ?_
   exact jn (mo6,((w6 (y3 + 1)),y4)) H (sM mo6 [26,25,2,0] [0] kr)
  refine tT h2 kr ?_
  refine Tr.at ?_
  refine lU 6 kr ?_
  obtain ⟨r8,er8,H⟩ := bind_some H
  refine lV [.rd,.rd] [.box 0] (impl_FlushPort n y4 y3 r8 er8) kr kr kr kr (.inr (rets_cons (mine_cons (mine_sl (mine_map Fent.row_mine _)) mine_nil) rets_nil)) ?_
  refine uD 3 100663301 1 kr kr ?_
  refine tE 2 100663301 1 kr kr ?_
  exact jn (mo6,((w6 (y3 + 1)),r8)) H (sM mo6 [26,25,2,0] [0] kr)
 rintro y5 H
 have H : (impl_Bridge_turn_J1 n r1 x0 y5) = some r := H
 unfold impl_Bridge_turn_J1 at H
 obtain rfl := si H
 exact Fin.ofY _ [] [] _ [] _ [(0,[cI x0.Id,cS x0.Name,cL 8 x0.Ports Pt.row,cL 5 y5 Fent.row,cL 3 x0.V.Rows Vrow.row,cL 1 x0.V.Pvid intRow,cI x0.Ticks,cI x0.Parse,cI x0.Word,cI x0.Drops,cI r1])] kr rfl rfl rfl kr kr kr kr rfl rfl rfl
def impl_HearVec_J1 (n : Nat) (r1 : Bridge) (x1 : Int) (x2 : Vec) (y2 : Bool) : Option (Bridge) :=
  (bif y2 then ((idx r1.Ports x1).bind fun v3 => ((idx (r1.Ports.set (x1.toNat) (⟨v3.Up,v3.Cost,true,v3.Heard⟩ : Pt)) x1).bind fun v4 => ((impl_Bridge_turnF n (⟨r1.Id,r1.Name,((r1.Ports.set (x1.toNat) (⟨v3.Up,v3.Cost,true,v3.Heard⟩ : Pt)).set (x1.toNat) (⟨v4.Up,v4.Cost,v4.Has,x2⟩ : Pt)),r1.F,r1.V,r1.Ticks,r1.Parse,r1.Word,r1.Drops,r1.Vers⟩ : Bridge)).bind fun r5 => (some r5)))) else (some r1))
def impl_HearVecF (n : Nat) (x0 : Bridge) (x1 : Int) (x2 : Vec) : Option (Bridge) :=
  ((impl_copyBridgeF n x0).bind fun r1 => ((impl_isPortF n x0 x1).bind fun r6 => (bif r6 then ((idx x0.Ports x1).bind fun v7 => (bif v7.Up then ((impl_VecOkF n x2).bind fun r8 => (impl_HearVec_J1 n r1 x1 x2 r8)) else (impl_HearVec_J1 n r1 x1 x2 false))) else (impl_HearVec_J1 n r1 x1 x2 false))))
noncomputable abbrev G216 (k : Nat) := Rg Tryz.f216 k
theorem impl_HearVec (n : Nat) (x0 : Bridge) (x1 : Int) (x2 : Vec) (r : Bridge) (H : impl_HearVecF n x0 x1 x2 = some r) : LCall Tryz.prog 216 [.val true (CV.frzRow (Bridge.row x0)),.val false [.lit (.int .i64 x1)],.val true (CV.frzRow (Vec.row x2))] [.val true (Bridge.row r)] [] := by
 refine LCall.of_body tOk Tryz.func216 rfl (c := (.seq (G216 0) (.seq (G216 1) (.seq (.seq (G216 2) (.cond (.tmp 24) (.seq (Rd Tryz.f216 3) (G216 4)) .skip)) (.seq (G216 5) .ret))))) kr (Nat.le_of_ble_eq_true kr) 0 (rs := [.cell 6 58]) rfl [] .nil [(true,(Bridge.row r))] [] [] fun cx => ?_
 show Tr _ _ _ ⟨38,0,[sV 0 (CV.frzRow (Bridge.row x0)),sI 1 x1,sV 2 (Vec.row x2)],[]⟩ _
 unfold impl_HearVecF at H
 refine tG 3 106 104 kr kr ?_
 refine rU 1 kr ?_
 obtain ⟨r1,er1,H⟩ := bind_some H
 refine lV [.rd] [] (impl_copyBridge n x0 r1 er1) kr kr kr kr (.inl rfl) ?_
 refine uD 2 234 232 kr kr ?_
 refine tS ?_
 refine tS ?_
 refine Tr.mid (ι := Bool) (fun v => ⟨38,0,[sB 24 v,sA 7 7 11 0,sA 6 6 11 0,sA 5 5 5 0,sI 1 x1],[(7,(Bridge.row r1)),(6,[cI 0,cS (⟨#[]⟩ : ByteArray),cL 8 ([] : List Pt) Pt.row,cL 5 ([] : List Fent) Fent.row,cL 3 ([] : List Vrow) Vrow.row,cL 1 ([] : List Int) intRow,cI 0,cI 0,cI 0,cI 0,cI 0]),(5,(Vec.row x2))]⟩) (fun v => impl_HearVec_J1 n r1 x1 x2 v = some r) ?_ ?_
 ·refine Tr.at ?_
  refine lU 2 kr ?_
  obtain ⟨r6,er6,H⟩ := bind_some H
  refine lV [.rd,.rd] [] (impl_isPort n x0 x1 r6 er6) kr kr kr kr (.inl rfl) ?_
  refine lU 1 kr ?_
  refine lT ⟨38,0,[sB 13 r6,sB 12 r6,sI 11 x1,sV 10 (CV.frzRow (Bridge.row x0)),sA 7 7 11 0,sA 6 6 11 0,sA 5 5 5 0,sA 3 3 11 0,sI 1 x1],[(7,(Bridge.row r1)),(6,[cI 0,cS (⟨#[]⟩ : ByteArray),cL 8 ([] : List Pt) Pt.row,cL 5 ([] : List Fent) Fent.row,cL 3 ([] : List Vrow) Vrow.row,cL 1 ([] : List Int) intRow,cI 0,cI 0,cI 0,cI 0,cI 0]),(5,(Vec.row x2)),(3,(CV.frzRow (Bridge.row x0)))]⟩ kr ?_
  cases h2 : r6
  ·have H := bifF h2 H
   refine uD 11 16777442 224 kr kr ?_
   exact jn false H (sB_ [24,7,6,5,1] [7,6,5] kr)
  have H := bifT h2 H
  refine lU 3 kr ?_
  obtain ⟨v7,ev7,H⟩ := bind_some H
  refine lI 52 0 15 16 17 (some (3,true)) ⟨(.slot 15),[],0,false,8,(CV.frzEs (x0.Ports.map Pt.row))⟩ x1 (Pt.row v7) _ kr kr kr kr rfl (idx_isF ev7) rfl ?_
  refine lU 4 kr ?_
  refine lT ⟨38,0,[sB 21 v7.Up,sB 20 v7.Up,sB 19 v7.Up,(18,.fad ((Pt.row v7))),(17,.fad ((Pt.row v7))),sI 16 x1,sC 15 (cF 8 x0.Ports Pt.row),sA 14 3 11 2,sB 13 true,sB 12 true,sI 11 x1,sV 10 (CV.frzRow (Bridge.row x0)),sA 7 7 11 0,sA 6 6 11 0,sA 5 5 5 0,sA 3 3 11 0,sI 1 x1],[(7,(Bridge.row r1)),(6,[cI 0,cS (⟨#[]⟩ : ByteArray),cL 8 ([] : List Pt) Pt.row,cL 5 ([] : List Fent) Fent.row,cL 3 ([] : List Vrow) Vrow.row,cL 1 ([] : List Int) intRow,cI 0,cI 0,cI 0,cI 0,cI 0]),(5,(Vec.row x2)),(3,(CV.frzRow (Bridge.row x0)))]⟩ kr ?_
  cases h3 : v7.Up
  ·have H := bifF h3 H
   refine uD 3 16777442 224 kr kr ?_
   exact jn false H (sB_ [24,7,6,5,1] [7,6,5] kr)
  have H := bifT h3 H
  refine lU 1 kr ?_
  obtain ⟨r8,er8,H⟩ := bind_some H
  refine lV [.rd] [] (impl_VecOk n x2 r8 er8) kr kr kr kr (.inl rfl) ?_
  refine uD 1 16777442 224 kr kr ?_
  exact jn r8 H (sB_ [24,7,6,5,1] [7,6,5] kr)
 rintro y2 H
 have H : (impl_HearVec_J1 n r1 x1 x2 y2) = some r := H
 unfold impl_HearVec_J1 at H
 cases h1 : y2
 ·have H := bifF h1 H
  refine tf kr ?_
  refine tK ?_
  refine tG 2 64 64 kr kr ?_
  exact te (by obtain rfl := si H; exact fO [(true,(Bridge.row r1))] kr rfl rfl)
 have H := bifT h1 H
 refine tt kr ?_
 obtain ⟨v3,ev3,H⟩ := bind_some H
 obtain ⟨v4,ev4,H⟩ := bind_some H
 refine Tr.draws mixed 13 kr ⟨38,0,[sA 7 7 11 0,sA 6 6 11 0],[(7,[cI r1.Id,cS r1.Name,cL 8 ((r1.Ports.set (x1.toNat) (⟨v3.Up,v3.Cost,true,v3.Heard⟩ : Pt)).set (x1.toNat) (⟨v4.Up,v4.Cost,v4.Has,x2⟩ : Pt)) Pt.row,cL 5 r1.F Fent.row,cL 3 r1.V.Rows Vrow.row,cL 1 r1.V.Pvid intRow,cI r1.Ticks,cI r1.Parse,cI r1.Word,cI r1.Drops,cI r1.Vers]),(6,[cI 0,cS (⟨#[]⟩ : ByteArray),cL 8 ([] : List Pt) Pt.row,cL 5 ([] : List Fent) Fent.row,cL 3 ([] : List Vrow) Vrow.row,cL 1 ([] : List Int) intRow,cI 0,cI 0,cI 0,cI 0,cI 0])]⟩ (fun cx => ?_) ?_
 ·refine aU [(0,[]),(1,[9,12]),(2,[]),(3,[]),(4,[9,12]),(5,[]),(6,[12])] 6 [⟨[12],162,5,31⟩,⟨[9,12],52,28,29⟩,⟨[9,12],52,25,26⟩] [6,5,4,3,2,1,0] rfl kr (fun cx => ?_)
  refine aO 7 52 0 26 27 32 none ⟨(.box 7),[(0,0)],2,true,8,(r1.Ports.map Pt.row)⟩ x1 (x1.toNat) (Pt.row v3) _ kr kr kr kr kr kr rfl kr (idx_isE ev3) rfl rfl (fun cx => ?_)
  refine aU [(8,[])] 4 [⟨[12],162,5,31⟩,⟨[9,12],52,28,29⟩,⟨[9,12],52,25,26⟩] [8,7,6,5,4,3,2,1,0] rfl kr (fun cx => ?_)
  refine b1 9 kr kr ?_
  refine LAt.storeB tOk (t := 4) (ty := 0) (ad := (.tmp 33)) (x := (.const (.bool true))) (g := none) (tI 4) false [cB true] 7 2 (x1.toNat) 8 2 8 r1.Ports Pt.row v3 (⟨v3.Up,v3.Cost,true,v3.Heard⟩ : Pt) kr kr kr kr kr kr kr kr (idx_get ev3).2 kr kr kr kr ?_
  refine lF kr kr kr ?_
  refine aO 10 52 0 29 30 34 none ⟨(.box 7),[(0,0)],2,true,8,((r1.Ports.set (x1.toNat) (⟨v3.Up,v3.Cost,true,v3.Heard⟩ : Pt)).map Pt.row)⟩ x1 (x1.toNat) (Pt.row v4) _ kr kr kr kr kr kr rfl kr (idx_isE ev4) rfl rfl (fun cx => ?_)
  refine aU [(11,[])] 1 [⟨[12],162,5,31⟩,⟨[9,12],52,28,29⟩,⟨[9,12],52,25,26⟩] [11,10,9,8,7,6,5,4,3,2,1,0] rfl kr (fun cx => ?_)
  refine b1 12 kr kr ?_
  refine LAt.storeB tOk (t := 162) (ty := 0) (ad := (.tmp 35)) (x := (.tmp 31)) (g := none) (tI 162) true (Vec.row x2) 7 2 (x1.toNat) 8 3 8 (r1.Ports.set (x1.toNat) (⟨v3.Up,v3.Cost,true,v3.Heard⟩ : Pt)) Pt.row v4 (⟨v4.Up,v4.Cost,v4.Has,x2⟩ : Pt) kr kr kr kr kr kr kr kr (idx_get ev4).2 kr kr kr kr ?_
  refine lF kr kr kr ?_
  exact AT.done [7,6] [7,6] _ kr kr rfl
 refine Tr.at ?_
 obtain ⟨r5,er5,H⟩ := bind_some H
 refine LAt.callL tOk [.lend] (f := 183) (av := #[.tmp 7]) (ats := #[58]) (d := (some 36)) (ty := 0) (g := none) kr kr kr [] (impl_Bridge_turn n (⟨r1.Id,r1.Name,((r1.Ports.set (x1.toNat) (⟨v3.Up,v3.Cost,true,v3.Heard⟩ : Pt)).set (x1.toNat) (⟨v4.Up,v4.Cost,v4.Has,x2⟩ : Pt)),r1.F,r1.V,r1.Ticks,r1.Parse,r1.Word,r1.Drops,r1.Vers⟩ : Bridge) r5 er5) kr (.inl rfl) ?_
 refine lD 192 192 kr ?_
 refine tG 2 64 64 kr kr ?_
 exact te (by obtain rfl := si H; exact fO [(true,(Bridge.row r5))] kr rfl rfl)
def impl_Net_hearF (n : Nat) (x0 : Net) (x1 : Int) (x2 : Int) (x3 : Vec) : Option (Net) :=
  ((idx x0.Bridges x1).bind fun v1 => ((impl_HearVecF n v1 x2 x3).bind fun r2 => (some (⟨(x0.Bridges.set (x1.toNat) r2),x0.Links,x0.Said⟩ : Net))))
theorem impl_Net_hear (n : Nat) (x0 : Net) (x1 : Int) (x2 : Int) (x3 : Vec) (r : Net) (H : impl_Net_hearF n x0 x1 x2 x3 = some r) : LCall Tryz.prog 138 [.ptr (Net.row x0),.val false [.lit (.int .i64 x1)],.val false [.lit (.int .i64 x2)],.val true (CV.frzRow (Vec.row x3))] [] [(0,(Net.row r))] := by
 refine LCall.of_body tOk Tryz.func138 rfl (c := (.seq (Rg Tryz.f138 0) (Rd Tryz.f138 1))) kr (Nat.le_of_ble_eq_true kr) 1 (rs := []) rfl [] .nil [] [] [(0,(Net.row r))] fun cx => ?_
 show Tr _ _ _ ⟨24,1,[sA 0 0 3 0,sI 1 x1,sI 2 x2,sV 3 (Vec.row x3)],[(0,(Net.row x0))]⟩ _
 unfold impl_Net_hearF at H
 refine tG 1 135 129 kr kr ?_
 obtain ⟨v1,ev1,H⟩ := bind_some H
 obtain ⟨r2,er2,H⟩ := bind_some H
 refine Tr.draw mixed 17 kr ⟨24,1,[sA 0 0 3 0],[(0,[cL 11 (x0.Bridges.set (x1.toNat) r2) Bridge.row,cL 4 x0.Links Link.row,cL 7 x0.Said Say.row])]⟩ (fun cx => ?_) ?_
 ·refine aU [(0,[]),(1,[]),(2,[]),(3,[16]),(4,[]),(5,[]),(6,[]),(7,[]),(8,[14,16]),(9,[])] 7 [⟨[14,16],25,15,16⟩,⟨[16],25,10,11⟩] [9,8,7,6,5,4,3,2,1,0] rfl kr (fun cx => ?_)
  refine aO 10 25 0 16 17 18 none ⟨(.box 0),[(0,0)],0,true,11,(x0.Bridges.map Bridge.row)⟩ x1 (x1.toNat) (Bridge.row v1) _ kr kr kr kr kr kr rfl kr (idx_isE ev1) rfl rfl (fun cx => ?_)
  refine aU [(12,[]),(13,[14,16])] 4 [⟨[14,16],162,7,21⟩,⟨[14,16],25,15,16⟩,⟨[16],25,10,11⟩] [13,12,10,9,8,7,6,5,4,3,2,1,0] rfl kr (fun cx => ?_)
  refine b1 11 kr kr ?_
  refine LAt.loadE tOk (t := 58) (ty := 58) (x := (.tmp 18)) (d := 19) (g := none) (tI 58) (.box 0) [(0,0),(0,(x1.toNat))] 11 0 [.sl true 3 [(Net.row x0)]] (Bridge.row v1) _ kr kr kr kr kr (getQ_elemB rfl (idx_get ev1).2) rfl (by intro h; cases h) kr kr rfl ?_
  refine lF kr kr kr ?_
  refine b1 14 kr kr ?_
  refine LAt.callO tOk [.rd,.rd,.rd] (f := 216) (av := #[.tmp 19,.tmp 20,.tmp 21]) (ats := #[58,3,162]) (d := (some 22)) (ty := 58) (g := none) [(19,Bridge.row v1)] none kr kr kr [.box 0] (impl_HearVec n v1 x2 x3 r2 er2) (orc_cons (row := [.sl true 3 [(Net.row x0)]]) (q := [(0,0),(0,(x1.toNat))]) kr (getQ_elemB rfl (idx_get ev1).2) orc_nil) kr nr_none (.inr (And.intro (rets_cons (Bridge.row_mine _) rets_nil) outs_nil)) ?_
  refine lF kr kr kr ?_
  refine aO 15 25 0 11 12 23 none ⟨(.box 0),[(0,0)],0,true,11,(x0.Bridges.map Bridge.row)⟩ x1 (x1.toNat) (Bridge.row v1) _ kr kr kr kr kr kr rfl kr (idx_isE ev1) rfl rfl (fun cx => ?_)
  refine b1 16 kr kr ?_
  refine LAt.storeB tOk (t := 58) (ty := 0) (ad := (.tmp 23)) (x := (.tmp 22)) (g := none) (tI 58) true (Bridge.row r2) 0 0 (x1.toNat) 11 0 11 x0.Bridges Bridge.row v1 r2 kr kr kr kr kr kr kr kr (idx_get ev1).2 kr kr kr kr ?_
  refine lF kr kr kr ?_
  exact AT.done [0] [0] _ kr kr rfl
 obtain rfl := si H
 exact Fin.ofY _ [] [] _ [] _ [(0,[cL 11 (x0.Bridges.set (x1.toNat) r2) Bridge.row,cL 4 x0.Links Link.row,cL 7 x0.Said Say.row])] kr rfl rfl rfl kr kr kr kr rfl rfl rfl
def impl_Round_J1 (n : Nat) (y7 : (List Bridge)) (y8 : (List Link)) (y9 : (List Say)) : Option (Net) :=
  (some (⟨y7,y8,y9⟩ : Net))
def impl_Round_L2 (n : Nat) : Nat → Net → Int → (List Bridge) → (List Link) → (List Say) → Option (((List Bridge) × (List Link) × (List Say)) ⊕ (Net))
  | 0,_,_,_,_,_ => none
  | mo10 + 1,x0,y3,y4,y5,y6 => (bif (decide (y3 < (x0.Links.length : Int))) then ((idx x0.Links y3).bind fun v11 => ((impl_LinkUpF n x0 y3).bind fun r12 => (bif r12 then ((impl_saidF n x0 v11.B v11.Q).bind fun r13 => ((impl_Net_hearF n (⟨y4,y5,y6⟩ : Net) v11.A v11.P r13).bind fun r14 => ((impl_saidF n x0 v11.A v11.P).bind fun r15 => ((impl_Net_hearF n r14 v11.B v11.Q r15).bind fun r16 => (impl_Round_L2 n mo10 x0 (IntKind.wrap .i64 (y3 + 1)) r16.Bridges r16.Links r16.Said))))) else (impl_Round_L2 n mo10 x0 (IntKind.wrap .i64 (y3 + 1)) y4 y5 y6)))) else (some (Sum.inl (y4,y5,y6))))
def impl_RoundF (n : Nat) (x0 : Net) : Option (Net) :=
  ((impl_copyNetF n x0).bind fun r1 => ((impl_NetOkF n x0).bind fun r2 => (bif (!r2) then (some r1) else ((impl_Round_L2 n n x0 0 r1.Bridges r1.Links ([] : List Say)).bind fun o => match o with | .inl (y7,y8,y9) => (impl_Round_J1 n y7 y8 y9) | .inr r => some r))))
noncomputable abbrev G41 (k : Nat) := Rg Tryz.f41 k
theorem impl_Round (n : Nat) (x0 : Net) (r : Net) (H : impl_RoundF n x0 = some r) : LCall Tryz.prog 41 [.val true (CV.frzRow (Net.row x0))] [.val true (Net.row r)] [] := by
 refine LCall.of_body tOk Tryz.func41 rfl (c := (.seq (G41 0) (.seq (G41 1) (.seq (.seq (G41 2) (.cond (.tmp 10) (.seq (G41 3) .ret) .skip)) (.seq (G41 4) (.seq (.seq (G41 5) (.block 0 (.loop (.seq (G41 6) (.seq (.cond (.tmp 17) .skip (.exit 0)) (.seq (.block 1 (.seq (G41 7) (.seq (G41 8) (.cond (.tmp 23) (.seq (Rd Tryz.f41 9) (Rd Tryz.f41 10)) .skip)))) (G41 11))))))) (.seq (G41 12) .ret))))))) kr (Nat.le_of_ble_eq_true kr) 0 (rs := [.cell 2 29]) rfl [] .nil [(true,(Net.row r))] [] [] fun cx => ?_
 show Tr _ _ _ ⟨48,0,[sV 0 (CV.frzRow (Net.row x0))],[]⟩ _
 unfold impl_RoundF at H
 refine tG 2 6 6 kr kr ?_
 refine rU 1 kr ?_
 obtain ⟨r1,er1,H⟩ := bind_some H
 refine lV [.rd] [] (impl_copyNet n x0 r1 er1) kr kr kr kr (.inl rfl) ?_
 refine uD 2 14 14 kr kr ?_
 refine tS ?_
 refine rU 1 kr ?_
 obtain ⟨r2,er2,H⟩ := bind_some H
 refine lV [.rd] [] (impl_NetOk n x0 r2 er2) kr kr kr kr (.inl rfl) ?_
 refine uD 1 1038 14 kr kr ?_
 obtain ⟨h1,H⟩ | ⟨h1,H⟩ := bC H
 ·refine tF h1 kr ?_
  refine tK ?_
  refine tG 2 14 14 kr kr ?_
  refine tS ?_
  refine rU 2 kr ?_
  refine lL 26 3 126 14 15 none ⟨(.slot 14),[],0,false,4,(CV.frzEs (x0.Links.map Link.row))⟩ (x0.Links).length _ kr kr kr kr kr (frz_len _ _) rfl ?_
  refine uD 1 114702 14 kr kr ?_
  obtain ⟨o10,eo10,Ho10⟩ := bind_some H
  clear H
  refine Tr.mid (ι := (List Bridge) × (List Link) × (List Say)) (fun v => ⟨48,0,[sA 3 3 3 0,sA 2 2 3 0],[(3,[cL 11 v.1 Bridge.row,cL 4 v.2.1 Link.row,cL 7 v.2.2 Say.row]),(2,[cL 11 ([] : List Bridge) Bridge.row,cL 4 ([] : List Link) Link.row,cL 7 ([] : List Say) Say.row])]⟩) (fun v => impl_Round_J1 n v.1 v.2.1 v.2.2 = some r) ?_ ?_
  ·refine tB ?_
   refine Tr.loop (ι := Nat × (Int × (List Bridge) × (List Link) × (List Say))) (fun v => ⟨48,0,[sI 16 v.2.1,sI 15 (x0.Links.length : Int),sC 14 (cF 4 x0.Links Link.row),sA 3 3 3 0,sA 2 2 3 0,sA 1 1 3 0],[(3,[cL 11 v.2.2.1 Bridge.row,cL 4 v.2.2.2.1 Link.row,cL 7 v.2.2.2.2 Say.row]),(2,[cL 11 ([] : List Bridge) Bridge.row,cL 4 ([] : List Link) Link.row,cL 7 ([] : List Say) Say.row]),(1,(CV.frzRow (Net.row x0)))]⟩) (fun v => impl_Round_L2 n v.1 x0 v.2.1 v.2.2.1 v.2.2.2.1 v.2.2.2.2 = some o10) (fun v => v.1) (n,(0,r1.Bridges,r1.Links,([] : List Say))) eo10 (St.sub_of [16,15,14,3,2,1] [3,2,1] kr) ?_
   rintro ⟨mo10,y3,y4,y5,y6⟩ H
   have H : impl_Round_L2 n mo10 x0 y3 y4 y5 y6 = some o10 := H
   obtain _ | mo10 := mo10
   ·cases (show (none : Option _) = some o10 from H)
   rw [impl_Round_L2] at H
   refine tG 1 245774 14 kr kr ?_
   refine tS ?_
   obtain ⟨h2,H⟩ | ⟨h2,H⟩ := bC H
   ·refine tF h2 kr ?_
    refine Tr.exit ?_
    refine And.intro (fun _ => ?_) (fun h => absurd rfl h)
    obtain rfl := si H
    have H := Ho10
    dsimp only at H
    exact jn (y4,y5,y6) H (sB_ [3,2] [3,2] kr)
   refine tT h2 kr ?_
   refine tK ?_
   refine tS ?_
   refine tB ?_
   refine rU 1 kr ?_
   obtain ⟨v11,ev11,H⟩ := bind_some H
   refine lI 26 0 14 16 19 none ⟨(.slot 14),[],0,false,4,(CV.frzEs (x0.Links.map Link.row))⟩ y3 (Link.row v11) _ kr kr kr kr rfl (idx_isF ev11) rfl ?_
   refine uD 4 114750 46 kr kr ?_
   refine rU 2 kr ?_
   obtain ⟨r12,er12,H⟩ := bind_some H
   refine lV [.rd,.rd] [] (impl_LinkUp n x0 y3 r12 er12) kr kr kr kr (.inl rfl) ?_
   refine lD 8503342 46 kr ?_
   cases h3 : r12
   ·have H := bifF h3 H
    refine tf kr ?_
    refine tK ?_
    refine tE 2 114702 14 kr kr ?_
    exact jn (mo10,((w6 (y3 + 1)),y4,y5,y6)) H (sM mo10 [16,15,14,3,2,1] [3,2,1] kr)
   have H := bifT h3 H
   refine tt kr ?_
   obtain ⟨r13,er13,H⟩ := bind_some H
   obtain ⟨r14,er14,H⟩ := bind_some H
   refine Tr.draws mixed 11 kr ⟨48,0,[sA 5 5 4 0,sI 16 y3,sI 15 (x0.Links.length : Int),sC 14 (cF 4 x0.Links Link.row),sA 3 3 3 0,sA 2 2 3 0,sA 1 1 3 0],[(3,(Net.row r14)),(5,(Link.row v11)),(2,[cL 11 ([] : List Bridge) Bridge.row,cL 4 ([] : List Link) Link.row,cL 7 ([] : List Say) Say.row]),(1,(CV.frzRow (Net.row x0)))]⟩ (fun cx => ?_) ?_
   ·refine aU [(0,[]),(1,[10]),(2,[]),(3,[10]),(4,[9,10]),(5,[]),(6,[9,10]),(7,[]),(8,[9,10])] 2 [⟨[9,10],3,31,32⟩,⟨[9,10],3,29,30⟩,⟨[9,10],29,1,28⟩,⟨[10],3,26,27⟩,⟨[10],3,24,25⟩] [8,7,6,5,4,3,2,1,0] rfl kr (fun cx => ?_)
    refine b1 9 kr kr ?_
    refine lV [.rd,.rd,.rd] [] (impl_said n x0 v11.B v11.Q r13 er13) kr kr kr kr (.inl rfl) ?_
    refine lF kr kr kr ?_
    refine b1 10 kr kr ?_
    refine LAt.callL tOk [.lend,.rd,.rd,.rd] (f := 138) (av := #[.tmp 3,.tmp 25,.tmp 27,.tmp 33]) (ats := #[29,3,3,162]) (d := (some 34)) (ty := 0) (g := none) kr kr kr [] (impl_Net_hear n (⟨y4,y5,y6⟩ : Net) v11.A v11.P r13 r14 er14) kr (.inl rfl) ?_
    refine lF kr kr kr ?_
    exact AT.done [5,16,15,14,3,2,1] [3,5,2,1] _ kr kr rfl
   obtain ⟨r15,er15,H⟩ := bind_some H
   obtain ⟨r16,er16,H⟩ := bind_some H
   refine Tr.draw mixed 11 kr ⟨48,0,[sI 16 y3,sI 15 (x0.Links.length : Int),sC 14 (cF 4 x0.Links Link.row),sA 3 3 3 0,sA 2 2 3 0,sA 1 1 3 0],[(3,(Net.row r16)),(2,[cL 11 ([] : List Bridge) Bridge.row,cL 4 ([] : List Link) Link.row,cL 7 ([] : List Say) Say.row]),(1,(CV.frzRow (Net.row x0)))]⟩ (fun cx => ?_) ?_
   ·refine aU [(0,[]),(1,[10]),(2,[]),(3,[10]),(4,[9,10]),(5,[]),(6,[9,10]),(7,[]),(8,[9,10])] 2 [⟨[9,10],3,42,43⟩,⟨[9,10],3,40,41⟩,⟨[9,10],29,1,39⟩,⟨[10],3,37,38⟩,⟨[10],3,35,36⟩] [8,7,6,5,4,3,2,1,0] rfl kr (fun cx => ?_)
    refine b1 9 kr kr ?_
    refine lV [.rd,.rd,.rd] [] (impl_said n x0 v11.A v11.P r15 er15) kr kr kr kr (.inl rfl) ?_
    refine lF kr kr kr ?_
    refine b1 10 kr kr ?_
    refine LAt.callL tOk [.lend,.rd,.rd,.rd] (f := 138) (av := #[.tmp 3,.tmp 36,.tmp 38,.tmp 44]) (ats := #[29,3,3,162]) (d := (some 45)) (ty := 0) (g := none) kr kr kr [] (impl_Net_hear n r14 v11.B v11.Q r15 r16 er16) kr (.inl rfl) ?_
    refine lF kr kr kr ?_
    exact AT.done [16,15,14,3,2,1] [3,2,1] _ kr kr rfl
   refine tE 2 114702 14 kr kr ?_
   exact jn (mo10,((w6 (y3 + 1)),r16.Bridges,r16.Links,r16.Said)) H (sM mo10 [16,15,14,3,2,1] [3,2,1] kr)
  rintro ⟨y7,y8,y9⟩ H
  have H : (impl_Round_J1 n y7 y8 y9) = some r := H
  unfold impl_Round_J1 at H
  refine tG 2 4 4 kr kr ?_
  exact te (by obtain rfl := si H; exact fO [(true,[cL 11 y7 Bridge.row,cL 4 y8 Link.row,cL 7 y9 Say.row])] kr rfl rfl)
 refine tT h1 kr ?_
 refine tG 2 4 4 kr kr ?_
 exact te (by obtain rfl := si H; exact fO [(true,(Net.row r1))] kr rfl rfl)
def impl_Rounds_J1 (n : Nat) (y6 : (List Bridge)) (y7 : (List Link)) (y8 : (List Say)) : Option (Net) :=
  (some (⟨y6,y7,y8⟩ : Net))
def impl_Rounds_L2 (n : Nat) : Nat → Int → Int → (List Bridge) → (List Link) → (List Say) → Option (((List Bridge) × (List Link) × (List Say)) ⊕ (Net))
  | 0,_,_,_,_,_ => none
  | mo9 + 1,x1,y2,y3,y4,y5 => (bif (decide (y2 < (if (if 30 < x1 then 30 else x1) > 0 then (if 30 < x1 then 30 else x1) else 0))) then ((impl_RoundF n (⟨y3,y4,y5⟩ : Net)).bind fun r10 => (impl_Rounds_L2 n mo9 x1 (IntKind.wrap .i64 (y2 + 1)) r10.Bridges r10.Links r10.Said)) else (some (Sum.inl (y3,y4,y5))))
def impl_RoundsF (n : Nat) (x0 : Net) (x1 : Int) : Option (Net) :=
  ((impl_copyNetF n x0).bind fun r1 => ((impl_Rounds_L2 n n x1 0 r1.Bridges r1.Links r1.Said).bind fun o => match o with | .inl (y6,y7,y8) => (impl_Rounds_J1 n y6 y7 y8) | .inr r => some r))
noncomputable abbrev G43 (k : Nat) := Rg Tryz.f43 k
theorem impl_Rounds (n : Nat) (x0 : Net) (x1 : Int) (r : Net) (H : impl_RoundsF n x0 x1 = some r) : LCall Tryz.prog 43 [.val true (CV.frzRow (Net.row x0)),.val false [.lit (.int .i64 x1)]] [.val true (Net.row r)] [] := by
 refine LCall.of_body tOk Tryz.func43 rfl (c := (.seq (G43 0) (.seq (G43 1) (.seq (.seq (G43 2) (.block 0 (.loop (.seq (G43 3) (.seq (.cond (.tmp 12) .skip (.exit 0)) (.seq (.block 1 (G43 4)) (G43 5))))))) (.seq (G43 6) .ret))))) kr (Nat.le_of_ble_eq_true kr) 0 (rs := [.cell 4 29]) rfl [] .nil [(true,(Net.row r))] [] [] fun cx => ?_
 show Tr _ _ _ ⟨17,0,[sV 0 (CV.frzRow (Net.row x0)),sI 1 x1],[]⟩ _
 unfold impl_RoundsF at H
 refine tG 2 22 20 kr kr ?_
 refine rU 1 kr ?_
 obtain ⟨r1,er1,H⟩ := bind_some H
 refine lV [.rd] [] (impl_copyNet n x0 r1 er1) kr kr kr kr (.inl rfl) ?_
 refine uD 2 50 48 kr kr ?_
 refine tS ?_
 refine tG 4 3120 48 kr kr ?_
 obtain ⟨o9,eo9,Ho9⟩ := bind_some H
 clear H
 refine Tr.mid (ι := (List Bridge) × (List Link) × (List Say)) (fun v => ⟨17,0,[sA 5 5 3 0,sA 4 4 3 0],[(5,[cL 11 v.1 Bridge.row,cL 4 v.2.1 Link.row,cL 7 v.2.2 Say.row]),(4,[cL 11 ([] : List Bridge) Bridge.row,cL 4 ([] : List Link) Link.row,cL 7 ([] : List Say) Say.row])]⟩) (fun v => impl_Rounds_J1 n v.1 v.2.1 v.2.2 = some r) ?_ ?_
 ·refine tB ?_
  refine Tr.loop (ι := Nat × (Int × (List Bridge) × (List Link) × (List Say))) (fun v => ⟨17,0,[sI 11 v.2.1,sI 10 (if (if 30 < x1 then 30 else x1) > 0 then (if 30 < x1 then 30 else x1) else 0),sA 5 5 3 0,sA 4 4 3 0],[(5,[cL 11 v.2.2.1 Bridge.row,cL 4 v.2.2.2.1 Link.row,cL 7 v.2.2.2.2 Say.row]),(4,[cL 11 ([] : List Bridge) Bridge.row,cL 4 ([] : List Link) Link.row,cL 7 ([] : List Say) Say.row])]⟩) (fun v => impl_Rounds_L2 n v.1 x1 v.2.1 v.2.2.1 v.2.2.2.1 v.2.2.2.2 = some o9) (fun v => v.1) (n,(0,r1.Bridges,r1.Links,r1.Said)) eo9 (St.sub_of [11,10,5,4] [5,4] kr) ?_
  rintro ⟨mo9,y2,y3,y4,y5⟩ H
  have H : impl_Rounds_L2 n mo9 x1 y2 y3 y4 y5 = some o9 := H
  obtain _ | mo9 := mo9
  ·cases (show (none : Option _) = some o9 from H)
  rw [impl_Rounds_L2] at H
  refine tG 1 7216 48 kr kr ?_
  refine tS ?_
  obtain ⟨h1,H⟩ | ⟨h1,H⟩ := bC H
  ·refine tF h1 kr ?_
   refine Tr.exit ?_
   refine And.intro (fun _ => ?_) (fun h => absurd rfl h)
   obtain rfl := si H
   have H := Ho9
   dsimp only at H
   exact jn (y3,y4,y5) H (sB_ [5,4] [5,4] kr)
  refine tT h1 kr ?_
  refine tK ?_
  refine tS ?_
  refine tB ?_
  refine Tr.at ?_
  refine lU 1 kr ?_
  obtain ⟨r10,er10,H⟩ := bind_some H
  refine lV [.rd] [.box 5] (impl_Round n (⟨y3,y4,y5⟩ : Net) r10 er10) kr kr kr kr (.inr (rets_cons (Net.row_mine _) rets_nil)) ?_
  refine uD 1 3120 48 kr kr ?_
  refine tE 2 3120 48 kr kr ?_
  exact jn (mo9,((w6 (y2 + 1)),r10.Bridges,r10.Links,r10.Said)) H (sM mo9 [11,10,5,4] [5,4] kr)
 rintro ⟨y6,y7,y8⟩ H
 have H : (impl_Rounds_J1 n y6 y7 y8) = some r := H
 unfold impl_Rounds_J1 at H
 refine tG 2 16 16 kr kr ?_
 exact te (by obtain rfl := si H; exact fO [(true,[cL 11 y6 Bridge.row,cL 4 y7 Link.row,cL 7 y8 Say.row])] kr rfl rfl)
def laws_eqVecF (n : Nat) (x0 : Vec) (x1 : Vec) : Option (Bool) :=
  (bif (x0.Root != x1.Root) then (some false) else (bif (x0.Cost != x1.Cost) then (some false) else (bif (x0.Hops != x1.Hops) then (some false) else (bif (x0.Bridge != x1.Bridge) then (some false) else (bif (x0.Port != x1.Port) then (some false) else (some true))))))
noncomputable abbrev G238 (k : Nat) := Rg Tryz.f238 k
theorem laws_eqVec (n : Nat) (x0 : Vec) (x1 : Vec) (r : Bool) (H : laws_eqVecF n x0 x1 = some r) : LCall Tryz.prog 238 [.val true (CV.frzRow (Vec.row x0)),.val true (CV.frzRow (Vec.row x1))] [.val false [.lit (.bool r)]] [] := by
 refine LCall.of_body tOk Tryz.func238 rfl (c := (.seq (G238 0) (.seq (.seq (G238 1) (.cond (.tmp 9) (.seq (G238 2) .ret) .skip)) (.seq (.seq (G238 3) (.cond (.tmp 14) (.seq (G238 4) .ret) .skip)) (.seq (.seq (G238 5) (.cond (.tmp 19) (.seq (G238 6) .ret) .skip)) (.seq (.seq (G238 7) (.cond (.tmp 24) (.seq (G238 8) .ret) .skip)) (.seq (.seq (G238 9) (.cond (.tmp 29) (.seq (G238 10) .ret) .skip)) (.seq (G238 11) .ret)))))))) kr (Nat.le_of_ble_eq_true kr) 0 (rs := [.tmp 4]) rfl [] .nil [(false,[.lit (.bool r)])] [] [] fun cx => ?_
 show Tr _ _ _ ⟨30,0,[sV 0 (Vec.row x0),sV 1 (Vec.row x1)],[]⟩ _
 unfold laws_eqVecF at H
 refine tG 3 12 12 kr kr ?_
 refine tS ?_
 refine tG 5 524 12 kr kr ?_
 obtain ⟨h1,H⟩ | ⟨h1,H⟩ := bC H
 ·refine tF h1 kr ?_
  refine tK ?_
  refine tS ?_
  refine tG 5 16396 12 kr kr ?_
  obtain ⟨h2,H⟩ | ⟨h2,H⟩ := bC H
  ·refine tF h2 kr ?_
   refine tK ?_
   refine tS ?_
   refine tG 5 524300 12 kr kr ?_
   obtain ⟨h3,H⟩ | ⟨h3,H⟩ := bC H
   ·refine tF h3 kr ?_
    refine tK ?_
    refine tS ?_
    refine tG 5 16777228 12 kr kr ?_
    obtain ⟨h4,H⟩ | ⟨h4,H⟩ := bC H
    ·refine tF h4 kr ?_
     refine tK ?_
     refine tS ?_
     refine tG 5 536870912 0 kr kr ?_
     obtain ⟨h5,H⟩ | ⟨h5,H⟩ := bC H
     ·refine tF h5 kr ?_
      refine tK ?_
      refine tG 1 16 0 kr kr ?_
      exact te (by obtain rfl := si H; exact fO [(false,[cB true])] kr rfl rfl)
     refine tT h5 kr ?_
     refine tG 1 16 0 kr kr ?_
     exact te (by obtain rfl := si H; exact fO [(false,[cB false])] kr rfl rfl)
    refine tT h4 kr ?_
    refine tG 1 16 0 kr kr ?_
    exact te (by obtain rfl := si H; exact fO [(false,[cB false])] kr rfl rfl)
   refine tT h3 kr ?_
   refine tG 1 16 0 kr kr ?_
   exact te (by obtain rfl := si H; exact fO [(false,[cB false])] kr rfl rfl)
  refine tT h2 kr ?_
  refine tG 1 16 0 kr kr ?_
  exact te (by obtain rfl := si H; exact fO [(false,[cB false])] kr rfl rfl)
 refine tT h1 kr ?_
 refine tG 1 16 0 kr kr ?_
 exact te (by obtain rfl := si H; exact fO [(false,[cB false])] kr rfl rfl)
def laws_eqPtF (n : Nat) (x0 : Pt) (x1 : Pt) : Option (Bool) :=
  (bif (!(x0.Up == x1.Up)) then (some false) else (bif (x0.Cost != x1.Cost) then (some false) else (bif (!(x0.Has == x1.Has)) then (some false) else ((laws_eqVecF n x0.Heard x1.Heard).bind fun r1 => (bif (!r1) then (some false) else (some true))))))
noncomputable abbrev G210 (k : Nat) := Rg Tryz.f210 k
theorem laws_eqPt (n : Nat) (x0 : Pt) (x1 : Pt) (r : Bool) (H : laws_eqPtF n x0 x1 = some r) : LCall Tryz.prog 210 [.val true (CV.frzRow (Pt.row x0)),.val true (CV.frzRow (Pt.row x1))] [.val false [.lit (.bool r)]] [] := by
 refine LCall.of_body tOk Tryz.func210 rfl (c := (.seq (G210 0) (.seq (.seq (G210 1) (.cond (.tmp 9) (.seq (G210 2) .ret) .skip)) (.seq (.seq (G210 3) (.cond (.tmp 14) (.seq (G210 4) .ret) .skip)) (.seq (.seq (G210 5) (.cond (.tmp 19) (.seq (G210 6) .ret) .skip)) (.seq (.seq (G210 7) (.cond (.tmp 25) (.seq (G210 8) .ret) .skip)) (.seq (G210 9) .ret))))))) kr (Nat.le_of_ble_eq_true kr) 0 (rs := [.tmp 4]) rfl [] .nil [(false,[.lit (.bool r)])] [] [] fun cx => ?_
 show Tr _ _ _ ⟨26,0,[sV 0 (Pt.row x0),sV 1 (Pt.row x1)],[]⟩ _
 unfold laws_eqPtF at H
 refine tG 3 12 12 kr kr ?_
 refine tS ?_
 refine tG 5 524 12 kr kr ?_
 obtain ⟨h1,H⟩ | ⟨h1,H⟩ := bC H
 ·refine tF h1 kr ?_
  refine tK ?_
  refine tS ?_
  refine tG 5 16396 12 kr kr ?_
  obtain ⟨h2,H⟩ | ⟨h2,H⟩ := bC H
  ·refine tF h2 kr ?_
   refine tK ?_
   refine tS ?_
   refine tG 5 524300 12 kr kr ?_
   obtain ⟨h3,H⟩ | ⟨h3,H⟩ := bC H
   ·refine tF h3 kr ?_
    refine tK ?_
    refine tS ?_
    refine rU 4 kr ?_
    obtain ⟨r1,er1,H⟩ := bind_some H
    refine lV [.rd,.rd] [] (laws_eqVec n x0.Heard x1.Heard r1 er1) kr kr kr kr (.inl rfl) ?_
    refine uD 1 33554432 0 kr kr ?_
    obtain ⟨h4,H⟩ | ⟨h4,H⟩ := bC H
    ·refine tF h4 kr ?_
     refine tK ?_
     refine tG 1 16 0 kr kr ?_
     exact te (by obtain rfl := si H; exact fO [(false,[cB true])] kr rfl rfl)
    refine tT h4 kr ?_
    refine tG 1 16 0 kr kr ?_
    exact te (by obtain rfl := si H; exact fO [(false,[cB false])] kr rfl rfl)
   refine tT h3 kr ?_
   refine tG 1 16 0 kr kr ?_
   exact te (by obtain rfl := si H; exact fO [(false,[cB false])] kr rfl rfl)
  refine tT h2 kr ?_
  refine tG 1 16 0 kr kr ?_
  exact te (by obtain rfl := si H; exact fO [(false,[cB false])] kr rfl rfl)
 refine tT h1 kr ?_
 refine tG 1 16 0 kr kr ?_
 exact te (by obtain rfl := si H; exact fO [(false,[cB false])] kr rfl rfl)
def laws_eqPtS_J1 (n : Nat) : Option (Bool) :=
  (some true)
def laws_eqPtS_L2 (n : Nat) : Nat → (List Pt) → (List Pt) → Int → Option ((Unit) ⊕ (Bool))
  | 0,_,_,_ => none
  | mo2 + 1,x0,x1,y1 => (bif (decide (y1 < (x0.length : Int))) then ((idx x0 y1).bind fun v3 => ((idx x1 y1).bind fun v4 => ((laws_eqPtF n v3 v4).bind fun r5 => (bif (!r5) then (some (Sum.inr false)) else (laws_eqPtS_L2 n mo2 x0 x1 (IntKind.wrap .i64 (y1 + 1))))))) else (some (Sum.inl ())))
def laws_eqPtSF (n : Nat) (x0 : (List Pt)) (x1 : (List Pt)) : Option (Bool) :=
  (bif ((x0.length : Int) != (x1.length : Int)) then (some false) else ((laws_eqPtS_L2 n n x0 x1 0).bind fun o => match o with | .inl _ => (laws_eqPtS_J1 n) | .inr r => some r))
noncomputable abbrev G117 (k : Nat) := Rg Tryz.f117 k
theorem laws_eqPtS (n : Nat) (x0 : (List Pt)) (x1 : (List Pt)) (r : Bool) (H : laws_eqPtSF n x0 x1 = some r) : LCall Tryz.prog 117 [.val false [.sl false 8 (CV.frzEs (x0.map Pt.row))],.val false [.sl false 8 (CV.frzEs (x1.map Pt.row))]] [.val false [.lit (.bool r)]] [] := by
 refine LCall.of_body tOk Tryz.func117 rfl (c := (.seq (G117 0) (.seq (.seq (G117 1) (.cond (.tmp 10) (.seq (G117 2) .ret) .skip)) (.seq (.seq (G117 3) (.block 0 (.loop (.seq (.seq (G117 4) (.cond (.tmp 14) .skip (.exit 0))) (.seq (.block 1 (.seq (Rd Tryz.f117 6) (.cond (.tmp 26) (.seq (G117 7) .ret) .skip))) (G117 5)))))) (.seq (G117 8) .ret))))) kr (Nat.le_of_ble_eq_true kr) 0 (rs := [.tmp 4]) rfl [] .nil [(false,[.lit (.bool r)])] [] [] fun cx => ?_
 show Tr _ _ _ ⟨27,0,[sC 0 (cF 8 x0 Pt.row),sC 1 (cF 8 x1 Pt.row)],[]⟩ _
 unfold laws_eqPtSF at H
 refine tG 1 3 0 kr kr ?_
 refine tS ?_
 refine rU 1 kr ?_
 refine lL 52 3 182 6 7 none ⟨(.slot 6),[],0,false,8,(CV.frzEs (x0.map Pt.row))⟩ (x0).length _ kr kr kr kr kr (frz_len _ _) rfl ?_
 refine lU 1 kr ?_
 refine lL 52 3 182 8 9 none ⟨(.slot 8),[],0,false,8,(CV.frzEs (x1.map Pt.row))⟩ (x1).length _ kr kr kr kr kr (frz_len _ _) rfl ?_
 refine uD 1 1027 0 kr kr ?_
 obtain ⟨h1,H⟩ | ⟨h1,H⟩ := bC H
 ·refine tF h1 kr ?_
  refine tK ?_
  refine tS ?_
  refine tG 1 35 0 kr kr ?_
  obtain ⟨o2,eo2,Ho2⟩ := bind_some H
  clear H
  refine Tr.mid (ι := Unit) (fun v => ⟨27,0,[],[]⟩) (fun v => laws_eqPtS_J1 n = some r) ?_ ?_
  ·refine tB ?_
   refine Tr.loop (ι := Nat × (Int)) (fun v => ⟨27,0,[sI 5 v.2,sC 0 (cF 8 x0 Pt.row),sC 1 (cF 8 x1 Pt.row)],[]⟩) (fun v => laws_eqPtS_L2 n v.1 x0 x1 v.2 = some o2) (fun v => v.1) (n,0) eo2 (St.sub_of [5,0,1] [] kr) ?_
   rintro ⟨mo2,y1⟩ H
   have H : laws_eqPtS_L2 n mo2 x0 x1 y1 = some o2 := H
   obtain _ | mo2 := mo2
   ·cases (show (none : Option _) = some o2 from H)
   rw [laws_eqPtS_L2] at H
   refine tS ?_
   refine rU 2 kr ?_
   refine lL 52 3 182 12 13 none ⟨(.slot 12),[],0,false,8,(CV.frzEs (x0.map Pt.row))⟩ (x0).length _ kr kr kr kr kr (frz_len _ _) rfl ?_
   refine uD 1 16419 0 kr kr ?_
   obtain ⟨h2,H⟩ | ⟨h2,H⟩ := bC H
   ·refine tF h2 kr ?_
    refine Tr.exit ?_
    refine And.intro (fun _ => ?_) (fun h => absurd rfl h)
    obtain rfl := si H
    have H := Ho2
    dsimp only at H
    exact jn () H (sB_ [] [] kr)
   refine tT h2 kr ?_
   refine tK ?_
   refine tS ?_
   refine tB ?_
   obtain ⟨v3,ev3,H⟩ := bind_some H
   obtain ⟨v4,ev4,H⟩ := bind_some H
   obtain ⟨r5,er5,H⟩ := bind_some H
   refine Tr.draws mixed 10 kr ⟨27,0,[sB 26 (!r5),sI 5 y1,sC 0 (cF 8 x0 Pt.row),sC 1 (cF 8 x1 Pt.row)],[]⟩ (fun cx => ?_) ?_
   ·refine aU [(0,[]),(1,[])] 8 [] [1,0] rfl kr (fun cx => ?_)
    refine aI 2 52 0 17 18 19 none ⟨(.slot 17),[],0,false,8,(CV.frzEs (x0.map Pt.row))⟩ y1 (Pt.row v3) _ kr kr kr kr kr kr rfl (idx_isF ev3) rfl (fun cx => ?_)
    refine aU [(3,[]),(4,[]),(5,[])] 4 [] [5,4,3,2,1,0] rfl kr (fun cx => ?_)
    refine aI 6 52 0 21 22 23 none ⟨(.slot 21),[],0,false,8,(CV.frzEs (x1.map Pt.row))⟩ y1 (Pt.row v4) _ kr kr kr kr kr kr rfl (idx_isF ev4) rfl (fun cx => ?_)
    refine aU [(7,[])] 2 [] [7,6,5,4,3,2,1,0] rfl kr (fun cx => ?_)
    refine b1 8 kr kr ?_
    refine lV [.rd,.rd] [] (laws_eqPt n v3 v4 r5 er5) kr kr kr kr (.inl rfl) ?_
    refine lF kr kr kr ?_
    refine aU [(9,[])] 0 [] [9,8,7,6,5,4,3,2,1,0] rfl kr (fun cx => ?_)
    exact AT.done [26,5,0,1] [] _ kr kr rfl
   refine tO ⟨27,0,[sB 26 (!r5),sI 5 y1,sC 0 (cF 8 x0 Pt.row),sC 1 (cF 8 x1 Pt.row)],[]⟩ kr ?_
   cases h3 : (!r5)
   ·have H := bifF h3 H
    refine tf kr ?_
    refine tK ?_
    refine tE 3 35 0 kr kr ?_
    exact jn (mo2,(w6 (y1 + 1))) H (sM mo2 [5,0,1] [] kr)
   have H := bifT h3 H
   refine tt kr ?_
   refine tG 1 16 0 kr kr ?_
   refine te ?_
   obtain rfl := si H
   have H := Ho2
   dsimp only at H
   obtain rfl := si H
   exact fO [(false,[cB false])] kr rfl rfl
  rintro _ H
  have H : (laws_eqPtS_J1 n) = some r := H
  unfold laws_eqPtS_J1 at H
  refine tG 1 16 0 kr kr ?_
  exact te (by obtain rfl := si H; exact fO [(false,[cB true])] kr rfl rfl)
 refine tT h1 kr ?_
 refine tG 1 16 0 kr kr ?_
 exact te (by obtain rfl := si H; exact fO [(false,[cB false])] kr rfl rfl)
def laws_eqFentF (n : Nat) (x0 : Fent) (x1 : Fent) : Option (Bool) :=
  (bif (x0.Tag != x1.Tag) then (some false) else (bif (x0.Mac != x1.Mac) then (some false) else (bif (x0.Port != x1.Port) then (some false) else (bif (x0.Age != x1.Age) then (some false) else (bif (!(x0.Static == x1.Static)) then (some false) else (some true))))))
noncomputable abbrev G211 (k : Nat) := Rg Tryz.f211 k
theorem laws_eqFent (n : Nat) (x0 : Fent) (x1 : Fent) (r : Bool) (H : laws_eqFentF n x0 x1 = some r) : LCall Tryz.prog 211 [.val true (CV.frzRow (Fent.row x0)),.val true (CV.frzRow (Fent.row x1))] [.val false [.lit (.bool r)]] [] := by
 refine LCall.of_body tOk Tryz.func211 rfl (c := (.seq (G211 0) (.seq (.seq (G211 1) (.cond (.tmp 9) (.seq (G211 2) .ret) .skip)) (.seq (.seq (G211 3) (.cond (.tmp 14) (.seq (G211 4) .ret) .skip)) (.seq (.seq (G211 5) (.cond (.tmp 19) (.seq (G211 6) .ret) .skip)) (.seq (.seq (G211 7) (.cond (.tmp 24) (.seq (G211 8) .ret) .skip)) (.seq (.seq (G211 9) (.cond (.tmp 29) (.seq (G211 10) .ret) .skip)) (.seq (G211 11) .ret)))))))) kr (Nat.le_of_ble_eq_true kr) 0 (rs := [.tmp 4]) rfl [] .nil [(false,[.lit (.bool r)])] [] [] fun cx => ?_
 show Tr _ _ _ ⟨30,0,[sV 0 (Fent.row x0),sV 1 (Fent.row x1)],[]⟩ _
 unfold laws_eqFentF at H
 refine tG 3 12 12 kr kr ?_
 refine tS ?_
 refine tG 5 524 12 kr kr ?_
 obtain ⟨h1,H⟩ | ⟨h1,H⟩ := bC H
 ·refine tF h1 kr ?_
  refine tK ?_
  refine tS ?_
  refine tG 5 16396 12 kr kr ?_
  obtain ⟨h2,H⟩ | ⟨h2,H⟩ := bC H
  ·refine tF h2 kr ?_
   refine tK ?_
   refine tS ?_
   refine tG 5 524300 12 kr kr ?_
   obtain ⟨h3,H⟩ | ⟨h3,H⟩ := bC H
   ·refine tF h3 kr ?_
    refine tK ?_
    refine tS ?_
    refine tG 5 16777228 12 kr kr ?_
    obtain ⟨h4,H⟩ | ⟨h4,H⟩ := bC H
    ·refine tF h4 kr ?_
     refine tK ?_
     refine tS ?_
     refine tG 5 536870912 0 kr kr ?_
     obtain ⟨h5,H⟩ | ⟨h5,H⟩ := bC H
     ·refine tF h5 kr ?_
      refine tK ?_
      refine tG 1 16 0 kr kr ?_
      exact te (by obtain rfl := si H; exact fO [(false,[cB true])] kr rfl rfl)
     refine tT h5 kr ?_
     refine tG 1 16 0 kr kr ?_
     exact te (by obtain rfl := si H; exact fO [(false,[cB false])] kr rfl rfl)
    refine tT h4 kr ?_
    refine tG 1 16 0 kr kr ?_
    exact te (by obtain rfl := si H; exact fO [(false,[cB false])] kr rfl rfl)
   refine tT h3 kr ?_
   refine tG 1 16 0 kr kr ?_
   exact te (by obtain rfl := si H; exact fO [(false,[cB false])] kr rfl rfl)
  refine tT h2 kr ?_
  refine tG 1 16 0 kr kr ?_
  exact te (by obtain rfl := si H; exact fO [(false,[cB false])] kr rfl rfl)
 refine tT h1 kr ?_
 refine tG 1 16 0 kr kr ?_
 exact te (by obtain rfl := si H; exact fO [(false,[cB false])] kr rfl rfl)
def laws_eqFentS_J1 (n : Nat) : Option (Bool) :=
  (some true)
def laws_eqFentS_L2 (n : Nat) : Nat → (List Fent) → (List Fent) → Int → Option ((Unit) ⊕ (Bool))
  | 0,_,_,_ => none
  | mo2 + 1,x0,x1,y1 => (bif (decide (y1 < (x0.length : Int))) then ((idx x0 y1).bind fun v3 => ((idx x1 y1).bind fun v4 => ((laws_eqFentF n v3 v4).bind fun r5 => (bif (!r5) then (some (Sum.inr false)) else (laws_eqFentS_L2 n mo2 x0 x1 (IntKind.wrap .i64 (y1 + 1))))))) else (some (Sum.inl ())))
def laws_eqFentSF (n : Nat) (x0 : (List Fent)) (x1 : (List Fent)) : Option (Bool) :=
  (bif ((x0.length : Int) != (x1.length : Int)) then (some false) else ((laws_eqFentS_L2 n n x0 x1 0).bind fun o => match o with | .inl _ => (laws_eqFentS_J1 n) | .inr r => some r))
noncomputable abbrev G118 (k : Nat) := Rg Tryz.f118 k
theorem laws_eqFentS (n : Nat) (x0 : (List Fent)) (x1 : (List Fent)) (r : Bool) (H : laws_eqFentSF n x0 x1 = some r) : LCall Tryz.prog 118 [.val false [.sl false 5 (CV.frzEs (x0.map Fent.row))],.val false [.sl false 5 (CV.frzEs (x1.map Fent.row))]] [.val false [.lit (.bool r)]] [] := by
 refine LCall.of_body tOk Tryz.func118 rfl (c := (.seq (G118 0) (.seq (.seq (G118 1) (.cond (.tmp 10) (.seq (G118 2) .ret) .skip)) (.seq (.seq (G118 3) (.block 0 (.loop (.seq (.seq (G118 4) (.cond (.tmp 14) .skip (.exit 0))) (.seq (.block 1 (.seq (Rd Tryz.f118 6) (.cond (.tmp 26) (.seq (G118 7) .ret) .skip))) (G118 5)))))) (.seq (G118 8) .ret))))) kr (Nat.le_of_ble_eq_true kr) 0 (rs := [.tmp 4]) rfl [] .nil [(false,[.lit (.bool r)])] [] [] fun cx => ?_
 show Tr _ _ _ ⟨27,0,[sC 0 (cF 5 x0 Fent.row),sC 1 (cF 5 x1 Fent.row)],[]⟩ _
 unfold laws_eqFentSF at H
 refine tG 1 3 0 kr kr ?_
 refine tS ?_
 refine rU 1 kr ?_
 refine lL 53 3 184 6 7 none ⟨(.slot 6),[],0,false,5,(CV.frzEs (x0.map Fent.row))⟩ (x0).length _ kr kr kr kr kr (frz_len _ _) rfl ?_
 refine lU 1 kr ?_
 refine lL 53 3 184 8 9 none ⟨(.slot 8),[],0,false,5,(CV.frzEs (x1.map Fent.row))⟩ (x1).length _ kr kr kr kr kr (frz_len _ _) rfl ?_
 refine uD 1 1027 0 kr kr ?_
 obtain ⟨h1,H⟩ | ⟨h1,H⟩ := bC H
 ·refine tF h1 kr ?_
  refine tK ?_
  refine tS ?_
  refine tG 1 35 0 kr kr ?_
  obtain ⟨o2,eo2,Ho2⟩ := bind_some H
  clear H
  refine Tr.mid (ι := Unit) (fun v => ⟨27,0,[],[]⟩) (fun v => laws_eqFentS_J1 n = some r) ?_ ?_
  ·refine tB ?_
   refine Tr.loop (ι := Nat × (Int)) (fun v => ⟨27,0,[sI 5 v.2,sC 0 (cF 5 x0 Fent.row),sC 1 (cF 5 x1 Fent.row)],[]⟩) (fun v => laws_eqFentS_L2 n v.1 x0 x1 v.2 = some o2) (fun v => v.1) (n,0) eo2 (St.sub_of [5,0,1] [] kr) ?_
   rintro ⟨mo2,y1⟩ H
   have H : laws_eqFentS_L2 n mo2 x0 x1 y1 = some o2 := H
   obtain _ | mo2 := mo2
   ·cases (show (none : Option _) = some o2 from H)
   rw [laws_eqFentS_L2] at H
   refine tS ?_
   refine rU 2 kr ?_
   refine lL 53 3 184 12 13 none ⟨(.slot 12),[],0,false,5,(CV.frzEs (x0.map Fent.row))⟩ (x0).length _ kr kr kr kr kr (frz_len _ _) rfl ?_
   refine uD 1 16419 0 kr kr ?_
   obtain ⟨h2,H⟩ | ⟨h2,H⟩ := bC H
   ·refine tF h2 kr ?_
    refine Tr.exit ?_
    refine And.intro (fun _ => ?_) (fun h => absurd rfl h)
    obtain rfl := si H
    have H := Ho2
    dsimp only at H
    exact jn () H (sB_ [] [] kr)
   refine tT h2 kr ?_
   refine tK ?_
   refine tS ?_
   refine tB ?_
   obtain ⟨v3,ev3,H⟩ := bind_some H
   obtain ⟨v4,ev4,H⟩ := bind_some H
   obtain ⟨r5,er5,H⟩ := bind_some H
   refine Tr.draws mixed 10 kr ⟨27,0,[sB 26 (!r5),sI 5 y1,sC 0 (cF 5 x0 Fent.row),sC 1 (cF 5 x1 Fent.row)],[]⟩ (fun cx => ?_) ?_
   ·refine aU [(0,[]),(1,[])] 8 [] [1,0] rfl kr (fun cx => ?_)
    refine aI 2 53 0 17 18 19 none ⟨(.slot 17),[],0,false,5,(CV.frzEs (x0.map Fent.row))⟩ y1 (Fent.row v3) _ kr kr kr kr kr kr rfl (idx_isF ev3) rfl (fun cx => ?_)
    refine aU [(3,[]),(4,[]),(5,[])] 4 [] [5,4,3,2,1,0] rfl kr (fun cx => ?_)
    refine aI 6 53 0 21 22 23 none ⟨(.slot 21),[],0,false,5,(CV.frzEs (x1.map Fent.row))⟩ y1 (Fent.row v4) _ kr kr kr kr kr kr rfl (idx_isF ev4) rfl (fun cx => ?_)
    refine aU [(7,[])] 2 [] [7,6,5,4,3,2,1,0] rfl kr (fun cx => ?_)
    refine b1 8 kr kr ?_
    refine lV [.rd,.rd] [] (laws_eqFent n v3 v4 r5 er5) kr kr kr kr (.inl rfl) ?_
    refine lF kr kr kr ?_
    refine aU [(9,[])] 0 [] [9,8,7,6,5,4,3,2,1,0] rfl kr (fun cx => ?_)
    exact AT.done [26,5,0,1] [] _ kr kr rfl
   refine tO ⟨27,0,[sB 26 (!r5),sI 5 y1,sC 0 (cF 5 x0 Fent.row),sC 1 (cF 5 x1 Fent.row)],[]⟩ kr ?_
   cases h3 : (!r5)
   ·have H := bifF h3 H
    refine tf kr ?_
    refine tK ?_
    refine tE 3 35 0 kr kr ?_
    exact jn (mo2,(w6 (y1 + 1))) H (sM mo2 [5,0,1] [] kr)
   have H := bifT h3 H
   refine tt kr ?_
   refine tG 1 16 0 kr kr ?_
   refine te ?_
   obtain rfl := si H
   have H := Ho2
   dsimp only at H
   obtain rfl := si H
   exact fO [(false,[cB false])] kr rfl rfl
  rintro _ H
  have H : (laws_eqFentS_J1 n) = some r := H
  unfold laws_eqFentS_J1 at H
  refine tG 1 16 0 kr kr ?_
  exact te (by obtain rfl := si H; exact fO [(false,[cB true])] kr rfl rfl)
 refine tT h1 kr ?_
 refine tG 1 16 0 kr kr ?_
 exact te (by obtain rfl := si H; exact fO [(false,[cB false])] kr rfl rfl)
def laws_eqVrowF (n : Nat) (x0 : Vrow) (x1 : Vrow) : Option (Bool) :=
  (bif (x0.Id != x1.Id) then (some false) else (bif (x0.Members != x1.Members) then (some false) else (bif (x0.Bare != x1.Bare) then (some false) else (some true))))
noncomputable abbrev G249 (k : Nat) := Rg Tryz.f249 k
theorem laws_eqVrow (n : Nat) (x0 : Vrow) (x1 : Vrow) (r : Bool) (H : laws_eqVrowF n x0 x1 = some r) : LCall Tryz.prog 249 [.val true (CV.frzRow (Vrow.row x0)),.val true (CV.frzRow (Vrow.row x1))] [.val false [.lit (.bool r)]] [] := by
 refine LCall.of_body tOk Tryz.func249 rfl (c := (.seq (G249 0) (.seq (.seq (G249 1) (.cond (.tmp 9) (.seq (G249 2) .ret) .skip)) (.seq (.seq (G249 3) (.cond (.tmp 14) (.seq (G249 4) .ret) .skip)) (.seq (.seq (G249 5) (.cond (.tmp 19) (.seq (G249 6) .ret) .skip)) (.seq (G249 7) .ret)))))) kr (Nat.le_of_ble_eq_true kr) 0 (rs := [.tmp 4]) rfl [] .nil [(false,[.lit (.bool r)])] [] [] fun cx => ?_
 show Tr _ _ _ ⟨20,0,[sV 0 (Vrow.row x0),sV 1 (Vrow.row x1)],[]⟩ _
 unfold laws_eqVrowF at H
 refine tG 3 12 12 kr kr ?_
 refine tS ?_
 refine tG 5 524 12 kr kr ?_
 obtain ⟨h1,H⟩ | ⟨h1,H⟩ := bC H
 ·refine tF h1 kr ?_
  refine tK ?_
  refine tS ?_
  refine tG 5 16396 12 kr kr ?_
  obtain ⟨h2,H⟩ | ⟨h2,H⟩ := bC H
  ·refine tF h2 kr ?_
   refine tK ?_
   refine tS ?_
   refine tG 5 524288 0 kr kr ?_
   obtain ⟨h3,H⟩ | ⟨h3,H⟩ := bC H
   ·refine tF h3 kr ?_
    refine tK ?_
    refine tG 1 16 0 kr kr ?_
    exact te (by obtain rfl := si H; exact fO [(false,[cB true])] kr rfl rfl)
   refine tT h3 kr ?_
   refine tG 1 16 0 kr kr ?_
   exact te (by obtain rfl := si H; exact fO [(false,[cB false])] kr rfl rfl)
  refine tT h2 kr ?_
  refine tG 1 16 0 kr kr ?_
  exact te (by obtain rfl := si H; exact fO [(false,[cB false])] kr rfl rfl)
 refine tT h1 kr ?_
 refine tG 1 16 0 kr kr ?_
 exact te (by obtain rfl := si H; exact fO [(false,[cB false])] kr rfl rfl)
def laws_eqVrowS_J1 (n : Nat) : Option (Bool) :=
  (some true)
def laws_eqVrowS_L2 (n : Nat) : Nat → (List Vrow) → (List Vrow) → Int → Option ((Unit) ⊕ (Bool))
  | 0,_,_,_ => none
  | mo2 + 1,x0,x1,y1 => (bif (decide (y1 < (x0.length : Int))) then ((idx x0 y1).bind fun v3 => ((idx x1 y1).bind fun v4 => ((laws_eqVrowF n v3 v4).bind fun r5 => (bif (!r5) then (some (Sum.inr false)) else (laws_eqVrowS_L2 n mo2 x0 x1 (IntKind.wrap .i64 (y1 + 1))))))) else (some (Sum.inl ())))
def laws_eqVrowSF (n : Nat) (x0 : (List Vrow)) (x1 : (List Vrow)) : Option (Bool) :=
  (bif ((x0.length : Int) != (x1.length : Int)) then (some false) else ((laws_eqVrowS_L2 n n x0 x1 0).bind fun o => match o with | .inl _ => (laws_eqVrowS_J1 n) | .inr r => some r))
noncomputable abbrev G212 (k : Nat) := Rg Tryz.f212 k
theorem laws_eqVrowS (n : Nat) (x0 : (List Vrow)) (x1 : (List Vrow)) (r : Bool) (H : laws_eqVrowSF n x0 x1 = some r) : LCall Tryz.prog 212 [.val false [.sl false 3 (CV.frzEs (x0.map Vrow.row))],.val false [.sl false 3 (CV.frzEs (x1.map Vrow.row))]] [.val false [.lit (.bool r)]] [] := by
 refine LCall.of_body tOk Tryz.func212 rfl (c := (.seq (G212 0) (.seq (.seq (G212 1) (.cond (.tmp 10) (.seq (G212 2) .ret) .skip)) (.seq (.seq (G212 3) (.block 0 (.loop (.seq (.seq (G212 4) (.cond (.tmp 14) .skip (.exit 0))) (.seq (.block 1 (.seq (Rd Tryz.f212 6) (.cond (.tmp 26) (.seq (G212 7) .ret) .skip))) (G212 5)))))) (.seq (G212 8) .ret))))) kr (Nat.le_of_ble_eq_true kr) 0 (rs := [.tmp 4]) rfl [] .nil [(false,[.lit (.bool r)])] [] [] fun cx => ?_
 show Tr _ _ _ ⟨27,0,[sC 0 (cF 3 x0 Vrow.row),sC 1 (cF 3 x1 Vrow.row)],[]⟩ _
 unfold laws_eqVrowSF at H
 refine tG 1 3 0 kr kr ?_
 refine tS ?_
 refine rU 1 kr ?_
 refine lL 54 3 190 6 7 none ⟨(.slot 6),[],0,false,3,(CV.frzEs (x0.map Vrow.row))⟩ (x0).length _ kr kr kr kr kr (frz_len _ _) rfl ?_
 refine lU 1 kr ?_
 refine lL 54 3 190 8 9 none ⟨(.slot 8),[],0,false,3,(CV.frzEs (x1.map Vrow.row))⟩ (x1).length _ kr kr kr kr kr (frz_len _ _) rfl ?_
 refine uD 1 1027 0 kr kr ?_
 obtain ⟨h1,H⟩ | ⟨h1,H⟩ := bC H
 ·refine tF h1 kr ?_
  refine tK ?_
  refine tS ?_
  refine tG 1 35 0 kr kr ?_
  obtain ⟨o2,eo2,Ho2⟩ := bind_some H
  clear H
  refine Tr.mid (ι := Unit) (fun v => ⟨27,0,[],[]⟩) (fun v => laws_eqVrowS_J1 n = some r) ?_ ?_
  ·refine tB ?_
   refine Tr.loop (ι := Nat × (Int)) (fun v => ⟨27,0,[sI 5 v.2,sC 0 (cF 3 x0 Vrow.row),sC 1 (cF 3 x1 Vrow.row)],[]⟩) (fun v => laws_eqVrowS_L2 n v.1 x0 x1 v.2 = some o2) (fun v => v.1) (n,0) eo2 (St.sub_of [5,0,1] [] kr) ?_
   rintro ⟨mo2,y1⟩ H
   have H : laws_eqVrowS_L2 n mo2 x0 x1 y1 = some o2 := H
   obtain _ | mo2 := mo2
   ·cases (show (none : Option _) = some o2 from H)
   rw [laws_eqVrowS_L2] at H
   refine tS ?_
   refine rU 2 kr ?_
   refine lL 54 3 190 12 13 none ⟨(.slot 12),[],0,false,3,(CV.frzEs (x0.map Vrow.row))⟩ (x0).length _ kr kr kr kr kr (frz_len _ _) rfl ?_
   refine uD 1 16419 0 kr kr ?_
   obtain ⟨h2,H⟩ | ⟨h2,H⟩ := bC H
   ·refine tF h2 kr ?_
    refine Tr.exit ?_
    refine And.intro (fun _ => ?_) (fun h => absurd rfl h)
    obtain rfl := si H
    have H := Ho2
    dsimp only at H
    exact jn () H (sB_ [] [] kr)
   refine tT h2 kr ?_
   refine tK ?_
   refine tS ?_
   refine tB ?_
   obtain ⟨v3,ev3,H⟩ := bind_some H
   obtain ⟨v4,ev4,H⟩ := bind_some H
   obtain ⟨r5,er5,H⟩ := bind_some H
   refine Tr.draws mixed 10 kr ⟨27,0,[sB 26 (!r5),sI 5 y1,sC 0 (cF 3 x0 Vrow.row),sC 1 (cF 3 x1 Vrow.row)],[]⟩ (fun cx => ?_) ?_
   ·refine aU [(0,[]),(1,[])] 8 [] [1,0] rfl kr (fun cx => ?_)
    refine aI 2 54 0 17 18 19 none ⟨(.slot 17),[],0,false,3,(CV.frzEs (x0.map Vrow.row))⟩ y1 (Vrow.row v3) _ kr kr kr kr kr kr rfl (idx_isF ev3) rfl (fun cx => ?_)
    refine aU [(3,[]),(4,[]),(5,[])] 4 [] [5,4,3,2,1,0] rfl kr (fun cx => ?_)
    refine aI 6 54 0 21 22 23 none ⟨(.slot 21),[],0,false,3,(CV.frzEs (x1.map Vrow.row))⟩ y1 (Vrow.row v4) _ kr kr kr kr kr kr rfl (idx_isF ev4) rfl (fun cx => ?_)
    refine aU [(7,[])] 2 [] [7,6,5,4,3,2,1,0] rfl kr (fun cx => ?_)
    refine b1 8 kr kr ?_
    refine lV [.rd,.rd] [] (laws_eqVrow n v3 v4 r5 er5) kr kr kr kr (.inl rfl) ?_
    refine lF kr kr kr ?_
    refine aU [(9,[])] 0 [] [9,8,7,6,5,4,3,2,1,0] rfl kr (fun cx => ?_)
    exact AT.done [26,5,0,1] [] _ kr kr rfl
   refine tO ⟨27,0,[sB 26 (!r5),sI 5 y1,sC 0 (cF 3 x0 Vrow.row),sC 1 (cF 3 x1 Vrow.row)],[]⟩ kr ?_
   cases h3 : (!r5)
   ·have H := bifF h3 H
    refine tf kr ?_
    refine tK ?_
    refine tE 3 35 0 kr kr ?_
    exact jn (mo2,(w6 (y1 + 1))) H (sM mo2 [5,0,1] [] kr)
   have H := bifT h3 H
   refine tt kr ?_
   refine tG 1 16 0 kr kr ?_
   refine te ?_
   obtain rfl := si H
   have H := Ho2
   dsimp only at H
   obtain rfl := si H
   exact fO [(false,[cB false])] kr rfl rfl
  rintro _ H
  have H : (laws_eqVrowS_J1 n) = some r := H
  unfold laws_eqVrowS_J1 at H
  refine tG 1 16 0 kr kr ?_
  exact te (by obtain rfl := si H; exact fO [(false,[cB true])] kr rfl rfl)
 refine tT h1 kr ?_
 refine tG 1 16 0 kr kr ?_
 exact te (by obtain rfl := si H; exact fO [(false,[cB false])] kr rfl rfl)
def laws_eqIntS_J1 (n : Nat) : Option (Bool) :=
  (some true)
def laws_eqIntS_L2 (n : Nat) : Nat → (List Int) → (List Int) → Int → Option ((Unit) ⊕ (Bool))
  | 0,_,_,_ => none
  | mo2 + 1,x0,x1,y1 => (bif (decide (y1 < (x0.length : Int))) then ((idx x0 y1).bind fun v3 => ((idx x1 y1).bind fun v4 => (bif (v3 != v4) then (some (Sum.inr false)) else (laws_eqIntS_L2 n mo2 x0 x1 (IntKind.wrap .i64 (y1 + 1)))))) else (some (Sum.inl ())))
def laws_eqIntSF (n : Nat) (x0 : (List Int)) (x1 : (List Int)) : Option (Bool) :=
  (bif ((x0.length : Int) != (x1.length : Int)) then (some false) else ((laws_eqIntS_L2 n n x0 x1 0).bind fun o => match o with | .inl _ => (laws_eqIntS_J1 n) | .inr r => some r))
noncomputable abbrev G18 (k : Nat) := Rg Tryz.f18 k
theorem laws_eqIntS (n : Nat) (x0 : (List Int)) (x1 : (List Int)) (r : Bool) (H : laws_eqIntSF n x0 x1 = some r) : LCall Tryz.prog 18 [.val false [.sl false 1 (CV.frzEs (x0.map intRow))],.val false [.sl false 1 (CV.frzEs (x1.map intRow))]] [.val false [.lit (.bool r)]] [] := by
 refine LCall.of_body tOk Tryz.func18 rfl (c := (.seq (G18 0) (.seq (.seq (G18 1) (.cond (.tmp 10) (.seq (G18 2) .ret) .skip)) (.seq (.seq (G18 3) (.block 0 (.loop (.seq (.seq (G18 4) (.cond (.tmp 14) .skip (.exit 0))) (.seq (.block 1 (.seq (Rd Tryz.f18 6) (.cond (.tmp 25) (.seq (G18 7) .ret) .skip))) (G18 5)))))) (.seq (G18 8) .ret))))) kr (Nat.le_of_ble_eq_true kr) 0 (rs := [.tmp 4]) rfl [] .nil [(false,[.lit (.bool r)])] [] [] fun cx => ?_
 show Tr _ _ _ ⟨26,0,[sC 0 (cF 1 x0 intRow),sC 1 (cF 1 x1 intRow)],[]⟩ _
 unfold laws_eqIntSF at H
 refine tG 1 3 0 kr kr ?_
 refine tS ?_
 refine rU 1 kr ?_
 refine lL 22 3 3 6 7 none ⟨(.slot 6),[],0,false,1,(CV.frzEs (x0.map intRow))⟩ (x0).length _ kr kr kr kr kr (frz_len _ _) rfl ?_
 refine lU 1 kr ?_
 refine lL 22 3 3 8 9 none ⟨(.slot 8),[],0,false,1,(CV.frzEs (x1.map intRow))⟩ (x1).length _ kr kr kr kr kr (frz_len _ _) rfl ?_
 refine uD 1 1027 0 kr kr ?_
 obtain ⟨h1,H⟩ | ⟨h1,H⟩ := bC H
 ·refine tF h1 kr ?_
  refine tK ?_
  refine tS ?_
  refine tG 1 35 0 kr kr ?_
  obtain ⟨o2,eo2,Ho2⟩ := bind_some H
  clear H
  refine Tr.mid (ι := Unit) (fun v => ⟨26,0,[],[]⟩) (fun v => laws_eqIntS_J1 n = some r) ?_ ?_
  ·refine tB ?_
   refine Tr.loop (ι := Nat × (Int)) (fun v => ⟨26,0,[sI 5 v.2,sC 0 (cF 1 x0 intRow),sC 1 (cF 1 x1 intRow)],[]⟩) (fun v => laws_eqIntS_L2 n v.1 x0 x1 v.2 = some o2) (fun v => v.1) (n,0) eo2 (St.sub_of [5,0,1] [] kr) ?_
   rintro ⟨mo2,y1⟩ H
   have H : laws_eqIntS_L2 n mo2 x0 x1 y1 = some o2 := H
   obtain _ | mo2 := mo2
   ·cases (show (none : Option _) = some o2 from H)
   rw [laws_eqIntS_L2] at H
   refine tS ?_
   refine rU 2 kr ?_
   refine lL 22 3 3 12 13 none ⟨(.slot 12),[],0,false,1,(CV.frzEs (x0.map intRow))⟩ (x0).length _ kr kr kr kr kr (frz_len _ _) rfl ?_
   refine uD 1 16419 0 kr kr ?_
   obtain ⟨h2,H⟩ | ⟨h2,H⟩ := bC H
   ·refine tF h2 kr ?_
    refine Tr.exit ?_
    refine And.intro (fun _ => ?_) (fun h => absurd rfl h)
    obtain rfl := si H
    have H := Ho2
    dsimp only at H
    exact jn () H (sB_ [] [] kr)
   refine tT h2 kr ?_
   refine tK ?_
   refine tS ?_
   refine tB ?_
   obtain ⟨v3,ev3,H⟩ := bind_some H
   obtain ⟨v4,ev4,H⟩ := bind_some H
   refine Tr.draws mixed 9 kr ⟨26,0,[sB 25 (v3 != v4),sI 5 y1,sC 0 (cF 1 x0 intRow),sC 1 (cF 1 x1 intRow)],[]⟩ (fun cx => ?_) ?_
   ·refine aU [(0,[]),(1,[])] 7 [] [1,0] rfl kr (fun cx => ?_)
    refine aI 2 22 0 17 18 19 none ⟨(.slot 17),[],0,false,1,(CV.frzEs (x0.map intRow))⟩ y1 [cI v3] _ kr kr kr kr kr kr rfl (idx_isF ev3) rfl (fun cx => ?_)
    refine aU [(3,[]),(4,[]),(5,[])] 3 [] [5,4,3,2,1,0] rfl kr (fun cx => ?_)
    refine aI 6 22 0 21 22 23 none ⟨(.slot 21),[],0,false,1,(CV.frzEs (x1.map intRow))⟩ y1 [cI v4] _ kr kr kr kr kr kr rfl (idx_isF ev4) rfl (fun cx => ?_)
    refine aU [(7,[]),(8,[])] 0 [] [8,7,6,5,4,3,2,1,0] rfl kr (fun cx => ?_)
    exact AT.done [25,5,0,1] [] _ kr kr rfl
   refine tO ⟨26,0,[sB 25 (v3 != v4),sI 5 y1,sC 0 (cF 1 x0 intRow),sC 1 (cF 1 x1 intRow)],[]⟩ kr ?_
   cases h3 : (v3 != v4)
   ·have H := bifF h3 H
    refine tf kr ?_
    refine tK ?_
    refine tE 3 35 0 kr kr ?_
    exact jn (mo2,(w6 (y1 + 1))) H (sM mo2 [5,0,1] [] kr)
   have H := bifT h3 H
   refine tt kr ?_
   refine tG 1 16 0 kr kr ?_
   refine te ?_
   obtain rfl := si H
   have H := Ho2
   dsimp only at H
   obtain rfl := si H
   exact fO [(false,[cB false])] kr rfl rfl
  rintro _ H
  have H : (laws_eqIntS_J1 n) = some r := H
  unfold laws_eqIntS_J1 at H
  refine tG 1 16 0 kr kr ?_
  exact te (by obtain rfl := si H; exact fO [(false,[cB true])] kr rfl rfl)
 refine tT h1 kr ?_
 refine tG 1 16 0 kr kr ?_
 exact te (by obtain rfl := si H; exact fO [(false,[cB false])] kr rfl rfl)
def laws_eqVtabF (n : Nat) (x0 : Vtab) (x1 : Vtab) : Option (Bool) :=
  ((laws_eqVrowSF n x0.Rows x1.Rows).bind fun r1 => (bif (!r1) then (some false) else ((laws_eqIntSF n x0.Pvid x1.Pvid).bind fun r2 => (bif (!r2) then (some false) else (some true)))))
noncomputable abbrev G119 (k : Nat) := Rg Tryz.f119 k
theorem laws_eqVtab (n : Nat) (x0 : Vtab) (x1 : Vtab) (r : Bool) (H : laws_eqVtabF n x0 x1 = some r) : LCall Tryz.prog 119 [.val true (CV.frzRow (Vtab.row x0)),.val true (CV.frzRow (Vtab.row x1))] [.val false [.lit (.bool r)]] [] := by
 refine LCall.of_body tOk Tryz.func119 rfl (c := (.seq (G119 0) (.seq (.seq (G119 1) (.cond (.tmp 10) (.seq (G119 2) .ret) .skip)) (.seq (.seq (G119 3) (.cond (.tmp 16) (.seq (G119 4) .ret) .skip)) (.seq (G119 5) .ret))))) kr (Nat.le_of_ble_eq_true kr) 0 (rs := [.tmp 4]) rfl [] .nil [(false,[.lit (.bool r)])] [] [] fun cx => ?_
 show Tr _ _ _ ⟨17,0,[sV 0 (CV.frzRow (Vtab.row x0)),sV 1 (CV.frzRow (Vtab.row x1))],[]⟩ _
 unfold laws_eqVtabF at H
 refine tG 3 12 12 kr kr ?_
 refine tS ?_
 refine rU 4 kr ?_
 obtain ⟨r1,er1,H⟩ := bind_some H
 refine lV [.rd,.rd] [] (laws_eqVrowS n x0.Rows x1.Rows r1 er1) kr kr kr kr (.inl rfl) ?_
 refine uD 1 1036 12 kr kr ?_
 obtain ⟨h1,H⟩ | ⟨h1,H⟩ := bC H
 ·refine tF h1 kr ?_
  refine tK ?_
  refine tS ?_
  refine rU 4 kr ?_
  obtain ⟨r2,er2,H⟩ := bind_some H
  refine lV [.rd,.rd] [] (laws_eqIntS n x0.Pvid x1.Pvid r2 er2) kr kr kr kr (.inl rfl) ?_
  refine uD 1 65536 0 kr kr ?_
  obtain ⟨h2,H⟩ | ⟨h2,H⟩ := bC H
  ·refine tF h2 kr ?_
   refine tK ?_
   refine tG 1 16 0 kr kr ?_
   exact te (by obtain rfl := si H; exact fO [(false,[cB true])] kr rfl rfl)
  refine tT h2 kr ?_
  refine tG 1 16 0 kr kr ?_
  exact te (by obtain rfl := si H; exact fO [(false,[cB false])] kr rfl rfl)
 refine tT h1 kr ?_
 refine tG 1 16 0 kr kr ?_
 exact te (by obtain rfl := si H; exact fO [(false,[cB false])] kr rfl rfl)
def laws_eqBridgeF (n : Nat) (x0 : Bridge) (x1 : Bridge) : Option (Bool) :=
  (bif (x0.Id != x1.Id) then (some false) else (bif (!(x0.Name.toList == x1.Name.toList)) then (some false) else ((laws_eqPtSF n x0.Ports x1.Ports).bind fun r1 => (bif (!r1) then (some false) else ((laws_eqFentSF n x0.F x1.F).bind fun r2 => (bif (!r2) then (some false) else ((laws_eqVtabF n x0.V x1.V).bind fun r3 => (bif (!r3) then (some false) else (bif (x0.Ticks != x1.Ticks) then (some false) else (bif (x0.Parse != x1.Parse) then (some false) else (bif (x0.Word != x1.Word) then (some false) else (bif (x0.Drops != x1.Drops) then (some false) else (bif (x0.Vers != x1.Vers) then (some false) else (some true))))))))))))))
noncomputable abbrev G30 (k : Nat) := Rg Tryz.f30 k
theorem laws_eqBridge (n : Nat) (x0 : Bridge) (x1 : Bridge) (r : Bool) (H : laws_eqBridgeF n x0 x1 = some r) : LCall Tryz.prog 30 [.val true (CV.frzRow (Bridge.row x0)),.val true (CV.frzRow (Bridge.row x1))] [.val false [.lit (.bool r)]] [] := by
 refine LCall.of_body tOk Tryz.func30 rfl (c := (.seq (G30 0) (.seq (.seq (G30 1) (.cond (.tmp 9) (.seq (G30 2) .ret) .skip)) (.seq (.seq (G30 3) (.cond (.tmp 14) (.seq (G30 4) .ret) .skip)) (.seq (.seq (G30 5) (.cond (.tmp 20) (.seq (G30 6) .ret) .skip)) (.seq (.seq (G30 7) (.cond (.tmp 26) (.seq (G30 8) .ret) .skip)) (.seq (.seq (G30 9) (.cond (.tmp 32) (.seq (G30 10) .ret) .skip)) (.seq (.seq (G30 11) (.cond (.tmp 37) (.seq (G30 12) .ret) .skip)) (.seq (.seq (G30 13) (.cond (.tmp 42) (.seq (G30 14) .ret) .skip)) (.seq (.seq (G30 15) (.cond (.tmp 47) (.seq (G30 16) .ret) .skip)) (.seq (.seq (G30 17) (.cond (.tmp 52) (.seq (G30 18) .ret) .skip)) (.seq (.seq (G30 19) (.cond (.tmp 57) (.seq (G30 20) .ret) .skip)) (.seq (G30 21) .ret))))))))))))) kr (Nat.le_of_ble_eq_true kr) 0 (rs := [.tmp 4]) rfl [] .nil [(false,[.lit (.bool r)])] [] [] fun cx => ?_
 show Tr _ _ _ ⟨58,0,[sV 0 (CV.frzRow (Bridge.row x0)),sV 1 (CV.frzRow (Bridge.row x1))],[]⟩ _
 unfold laws_eqBridgeF at H
 refine tG 3 12 12 kr kr ?_
 refine tS ?_
 refine tG 5 524 12 kr kr ?_
 obtain ⟨h1,H⟩ | ⟨h1,H⟩ := bC H
 ·refine tF h1 kr ?_
  refine tK ?_
  refine tS ?_
  refine tG 5 16396 12 kr kr ?_
  obtain ⟨h2,H⟩ | ⟨h2,H⟩ := bC H
  ·refine tF h2 kr ?_
   refine tK ?_
   refine tS ?_
   refine rU 4 kr ?_
   obtain ⟨r1,er1,H⟩ := bind_some H
   refine lV [.rd,.rd] [] (laws_eqPtS n x0.Ports x1.Ports r1 er1) kr kr kr kr (.inl rfl) ?_
   refine uD 1 1048588 12 kr kr ?_
   obtain ⟨h3,H⟩ | ⟨h3,H⟩ := bC H
   ·refine tF h3 kr ?_
    refine tK ?_
    refine tS ?_
    refine rU 4 kr ?_
    obtain ⟨r2,er2,H⟩ := bind_some H
    refine lV [.rd,.rd] [] (laws_eqFentS n x0.F x1.F r2 er2) kr kr kr kr (.inl rfl) ?_
    refine uD 1 67108876 12 kr kr ?_
    obtain ⟨h4,H⟩ | ⟨h4,H⟩ := bC H
    ·refine tF h4 kr ?_
     refine tK ?_
     refine tS ?_
     refine rU 4 kr ?_
     obtain ⟨r3,er3,H⟩ := bind_some H
     refine lV [.rd,.rd] [] (laws_eqVtab n x0.V x1.V r3 er3) kr kr kr kr (.inl rfl) ?_
     refine uD 1 4294967308 12 kr kr ?_
     obtain ⟨h5,H⟩ | ⟨h5,H⟩ := bC H
     ·refine tF h5 kr ?_
      refine tK ?_
      refine tS ?_
      refine tG 5 137438953484 12 kr kr ?_
      refine tO ⟨58,0,[sB 37 (x0.Ticks != x1.Ticks),sA 3 3 11 0,sA 2 2 11 0],[(3,(CV.frzRow (Bridge.row x1))),(2,(CV.frzRow (Bridge.row x0)))]⟩ kr ?_
      cases h6 : (x0.Ticks != x1.Ticks)
      ·have H := bifF h6 H
       refine tf kr ?_
       refine tK ?_
       refine tS ?_
       refine tG 5 4398046511116 12 kr kr ?_
       obtain ⟨h7,H⟩ | ⟨h7,H⟩ := bC H
       ·refine tF h7 kr ?_
        refine tK ?_
        refine tS ?_
        refine tG 5 0x80000000000c 12 kr kr ?_
        obtain ⟨h8,H⟩ | ⟨h8,H⟩ := bC H
        ·refine tF h8 kr ?_
         refine tK ?_
         refine tS ?_
         refine tG 5 4503599627370508 12 kr kr ?_
         obtain ⟨h9,H⟩ | ⟨h9,H⟩ := bC H
         ·refine tF h9 kr ?_
          refine tK ?_
          refine tS ?_
          refine tG 5 0x200000000000000 0 kr kr ?_
          obtain ⟨h10,H⟩ | ⟨h10,H⟩ := bC H
          ·refine tF h10 kr ?_
           refine tK ?_
           refine tG 1 16 0 kr kr ?_
           exact te (by obtain rfl := si H; exact fO [(false,[cB true])] kr rfl rfl)
          refine tT h10 kr ?_
          refine tG 1 16 0 kr kr ?_
          exact te (by obtain rfl := si H; exact fO [(false,[cB false])] kr rfl rfl)
         refine tT h9 kr ?_
         refine tG 1 16 0 kr kr ?_
         exact te (by obtain rfl := si H; exact fO [(false,[cB false])] kr rfl rfl)
        refine tT h8 kr ?_
        refine tG 1 16 0 kr kr ?_
        exact te (by obtain rfl := si H; exact fO [(false,[cB false])] kr rfl rfl)
       refine tT h7 kr ?_
       refine tG 1 16 0 kr kr ?_
       exact te (by obtain rfl := si H; exact fO [(false,[cB false])] kr rfl rfl)
      have H := bifT h6 H
      refine tt kr ?_
      refine tG 1 16 0 kr kr ?_
      exact te (by obtain rfl := si H; exact fO [(false,[cB false])] kr rfl rfl)
     refine tT h5 kr ?_
     refine tG 1 16 0 kr kr ?_
     exact te (by obtain rfl := si H; exact fO [(false,[cB false])] kr rfl rfl)
    refine tT h4 kr ?_
    refine tG 1 16 0 kr kr ?_
    exact te (by obtain rfl := si H; exact fO [(false,[cB false])] kr rfl rfl)
   refine tT h3 kr ?_
   refine tG 1 16 0 kr kr ?_
   exact te (by obtain rfl := si H; exact fO [(false,[cB false])] kr rfl rfl)
  refine tT h2 kr ?_
  refine tG 1 16 0 kr kr ?_
  exact te (by obtain rfl := si H; exact fO [(false,[cB false])] kr rfl rfl)
 refine tT h1 kr ?_
 refine tG 1 16 0 kr kr ?_
 exact te (by obtain rfl := si H; exact fO [(false,[cB false])] kr rfl rfl)
def laws_eqBridgeS_J1 (n : Nat) : Option (Bool) :=
  (some true)
def laws_eqBridgeS_L2 (n : Nat) : Nat → (List Bridge) → (List Bridge) → Int → Option ((Unit) ⊕ (Bool))
  | 0,_,_,_ => none
  | mo2 + 1,x0,x1,y1 => (bif (decide (y1 < (x0.length : Int))) then ((idx x0 y1).bind fun v3 => ((idx x1 y1).bind fun v4 => ((laws_eqBridgeF n v3 v4).bind fun r5 => (bif (!r5) then (some (Sum.inr false)) else (laws_eqBridgeS_L2 n mo2 x0 x1 (IntKind.wrap .i64 (y1 + 1))))))) else (some (Sum.inl ())))
def laws_eqBridgeSF (n : Nat) (x0 : (List Bridge)) (x1 : (List Bridge)) : Option (Bool) :=
  (bif ((x0.length : Int) != (x1.length : Int)) then (some false) else ((laws_eqBridgeS_L2 n n x0 x1 0).bind fun o => match o with | .inl _ => (laws_eqBridgeS_J1 n) | .inr r => some r))
noncomputable abbrev G83 (k : Nat) := Rg Tryz.f83 k
theorem laws_eqBridgeS (n : Nat) (x0 : (List Bridge)) (x1 : (List Bridge)) (r : Bool) (H : laws_eqBridgeSF n x0 x1 = some r) : LCall Tryz.prog 83 [.val false [.sl false 11 (CV.frzEs (x0.map Bridge.row))],.val false [.sl false 11 (CV.frzEs (x1.map Bridge.row))]] [.val false [.lit (.bool r)]] [] := by
 refine LCall.of_body tOk Tryz.func83 rfl (c := (.seq (G83 0) (.seq (.seq (G83 1) (.cond (.tmp 10) (.seq (G83 2) .ret) .skip)) (.seq (.seq (G83 3) (.block 0 (.loop (.seq (.seq (G83 4) (.cond (.tmp 14) .skip (.exit 0))) (.seq (.block 1 (.seq (Rd Tryz.f83 6) (.cond (.tmp 26) (.seq (G83 7) .ret) .skip))) (G83 5)))))) (.seq (G83 8) .ret))))) kr (Nat.le_of_ble_eq_true kr) 0 (rs := [.tmp 4]) rfl [] .nil [(false,[.lit (.bool r)])] [] [] fun cx => ?_
 show Tr _ _ _ ⟨27,0,[sC 0 (cF 11 x0 Bridge.row),sC 1 (cF 11 x1 Bridge.row)],[]⟩ _
 unfold laws_eqBridgeSF at H
 refine tG 1 3 0 kr kr ?_
 refine tS ?_
 refine rU 1 kr ?_
 refine lL 25 3 58 6 7 none ⟨(.slot 6),[],0,false,11,(CV.frzEs (x0.map Bridge.row))⟩ (x0).length _ kr kr kr kr kr (frz_len _ _) rfl ?_
 refine lU 1 kr ?_
 refine lL 25 3 58 8 9 none ⟨(.slot 8),[],0,false,11,(CV.frzEs (x1.map Bridge.row))⟩ (x1).length _ kr kr kr kr kr (frz_len _ _) rfl ?_
 refine uD 1 1027 0 kr kr ?_
 obtain ⟨h1,H⟩ | ⟨h1,H⟩ := bC H
 ·refine tF h1 kr ?_
  refine tK ?_
  refine tS ?_
  refine tG 1 35 0 kr kr ?_
  obtain ⟨o2,eo2,Ho2⟩ := bind_some H
  clear H
  refine Tr.mid (ι := Unit) (fun v => ⟨27,0,[],[]⟩) (fun v => laws_eqBridgeS_J1 n = some r) ?_ ?_
  ·refine tB ?_
   refine Tr.loop (ι := Nat × (Int)) (fun v => ⟨27,0,[sI 5 v.2,sC 0 (cF 11 x0 Bridge.row),sC 1 (cF 11 x1 Bridge.row)],[]⟩) (fun v => laws_eqBridgeS_L2 n v.1 x0 x1 v.2 = some o2) (fun v => v.1) (n,0) eo2 (St.sub_of [5,0,1] [] kr) ?_
   rintro ⟨mo2,y1⟩ H
   have H : laws_eqBridgeS_L2 n mo2 x0 x1 y1 = some o2 := H
   obtain _ | mo2 := mo2
   ·cases (show (none : Option _) = some o2 from H)
   rw [laws_eqBridgeS_L2] at H
   refine tS ?_
   refine rU 2 kr ?_
   refine lL 25 3 58 12 13 none ⟨(.slot 12),[],0,false,11,(CV.frzEs (x0.map Bridge.row))⟩ (x0).length _ kr kr kr kr kr (frz_len _ _) rfl ?_
   refine uD 1 16419 0 kr kr ?_
   obtain ⟨h2,H⟩ | ⟨h2,H⟩ := bC H
   ·refine tF h2 kr ?_
    refine Tr.exit ?_
    refine And.intro (fun _ => ?_) (fun h => absurd rfl h)
    obtain rfl := si H
    have H := Ho2
    dsimp only at H
    exact jn () H (sB_ [] [] kr)
   refine tT h2 kr ?_
   refine tK ?_
   refine tS ?_
   refine tB ?_
   obtain ⟨v3,ev3,H⟩ := bind_some H
   obtain ⟨v4,ev4,H⟩ := bind_some H
   obtain ⟨r5,er5,H⟩ := bind_some H
   refine Tr.draws mixed 10 kr ⟨27,0,[sB 26 (!r5),sI 5 y1,sC 0 (cF 11 x0 Bridge.row),sC 1 (cF 11 x1 Bridge.row)],[]⟩ (fun cx => ?_) ?_
   ·refine aU [(0,[]),(1,[])] 8 [] [1,0] rfl kr (fun cx => ?_)
    refine aI 2 25 0 17 18 19 none ⟨(.slot 17),[],0,false,11,(CV.frzEs (x0.map Bridge.row))⟩ y1 (CV.frzRow (Bridge.row v3)) _ kr kr kr kr kr kr rfl (idx_isF ev3) rfl (fun cx => ?_)
    refine aU [(3,[]),(4,[]),(5,[])] 4 [] [5,4,3,2,1,0] rfl kr (fun cx => ?_)
    refine aI 6 25 0 21 22 23 none ⟨(.slot 21),[],0,false,11,(CV.frzEs (x1.map Bridge.row))⟩ y1 (CV.frzRow (Bridge.row v4)) _ kr kr kr kr kr kr rfl (idx_isF ev4) rfl (fun cx => ?_)
    refine aU [(7,[])] 2 [] [7,6,5,4,3,2,1,0] rfl kr (fun cx => ?_)
    refine b1 8 kr kr ?_
    refine lV [.rd,.rd] [] (laws_eqBridge n v3 v4 r5 er5) kr kr kr kr (.inl rfl) ?_
    refine lF kr kr kr ?_
    refine aU [(9,[])] 0 [] [9,8,7,6,5,4,3,2,1,0] rfl kr (fun cx => ?_)
    exact AT.done [26,5,0,1] [] _ kr kr rfl
   refine tO ⟨27,0,[sB 26 (!r5),sI 5 y1,sC 0 (cF 11 x0 Bridge.row),sC 1 (cF 11 x1 Bridge.row)],[]⟩ kr ?_
   cases h3 : (!r5)
   ·have H := bifF h3 H
    refine tf kr ?_
    refine tK ?_
    refine tE 3 35 0 kr kr ?_
    exact jn (mo2,(w6 (y1 + 1))) H (sM mo2 [5,0,1] [] kr)
   have H := bifT h3 H
   refine tt kr ?_
   refine tG 1 16 0 kr kr ?_
   refine te ?_
   obtain rfl := si H
   have H := Ho2
   dsimp only at H
   obtain rfl := si H
   exact fO [(false,[cB false])] kr rfl rfl
  rintro _ H
  have H : (laws_eqBridgeS_J1 n) = some r := H
  unfold laws_eqBridgeS_J1 at H
  refine tG 1 16 0 kr kr ?_
  exact te (by obtain rfl := si H; exact fO [(false,[cB true])] kr rfl rfl)
 refine tT h1 kr ?_
 refine tG 1 16 0 kr kr ?_
 exact te (by obtain rfl := si H; exact fO [(false,[cB false])] kr rfl rfl)
def laws_eqLinkF (n : Nat) (x0 : Link) (x1 : Link) : Option (Bool) :=
  (bif (x0.A != x1.A) then (some false) else (bif (x0.P != x1.P) then (some false) else (bif (x0.B != x1.B) then (some false) else (bif (x0.Q != x1.Q) then (some false) else (some true)))))
noncomputable abbrev G85 (k : Nat) := Rg Tryz.f85 k
theorem laws_eqLink (n : Nat) (x0 : Link) (x1 : Link) (r : Bool) (H : laws_eqLinkF n x0 x1 = some r) : LCall Tryz.prog 85 [.val true (CV.frzRow (Link.row x0)),.val true (CV.frzRow (Link.row x1))] [.val false [.lit (.bool r)]] [] := by
 refine LCall.of_body tOk Tryz.func85 rfl (c := (.seq (G85 0) (.seq (.seq (G85 1) (.cond (.tmp 9) (.seq (G85 2) .ret) .skip)) (.seq (.seq (G85 3) (.cond (.tmp 14) (.seq (G85 4) .ret) .skip)) (.seq (.seq (G85 5) (.cond (.tmp 19) (.seq (G85 6) .ret) .skip)) (.seq (.seq (G85 7) (.cond (.tmp 24) (.seq (G85 8) .ret) .skip)) (.seq (G85 9) .ret))))))) kr (Nat.le_of_ble_eq_true kr) 0 (rs := [.tmp 4]) rfl [] .nil [(false,[.lit (.bool r)])] [] [] fun cx => ?_
 show Tr _ _ _ ⟨25,0,[sV 0 (Link.row x0),sV 1 (Link.row x1)],[]⟩ _
 unfold laws_eqLinkF at H
 refine tG 3 12 12 kr kr ?_
 refine tS ?_
 refine tG 5 524 12 kr kr ?_
 obtain ⟨h1,H⟩ | ⟨h1,H⟩ := bC H
 ·refine tF h1 kr ?_
  refine tK ?_
  refine tS ?_
  refine tG 5 16396 12 kr kr ?_
  obtain ⟨h2,H⟩ | ⟨h2,H⟩ := bC H
  ·refine tF h2 kr ?_
   refine tK ?_
   refine tS ?_
   refine tG 5 524300 12 kr kr ?_
   obtain ⟨h3,H⟩ | ⟨h3,H⟩ := bC H
   ·refine tF h3 kr ?_
    refine tK ?_
    refine tS ?_
    refine tG 5 16777216 0 kr kr ?_
    obtain ⟨h4,H⟩ | ⟨h4,H⟩ := bC H
    ·refine tF h4 kr ?_
     refine tK ?_
     refine tG 1 16 0 kr kr ?_
     exact te (by obtain rfl := si H; exact fO [(false,[cB true])] kr rfl rfl)
    refine tT h4 kr ?_
    refine tG 1 16 0 kr kr ?_
    exact te (by obtain rfl := si H; exact fO [(false,[cB false])] kr rfl rfl)
   refine tT h3 kr ?_
   refine tG 1 16 0 kr kr ?_
   exact te (by obtain rfl := si H; exact fO [(false,[cB false])] kr rfl rfl)
  refine tT h2 kr ?_
  refine tG 1 16 0 kr kr ?_
  exact te (by obtain rfl := si H; exact fO [(false,[cB false])] kr rfl rfl)
 refine tT h1 kr ?_
 refine tG 1 16 0 kr kr ?_
 exact te (by obtain rfl := si H; exact fO [(false,[cB false])] kr rfl rfl)
def laws_eqLinkS_J1 (n : Nat) : Option (Bool) :=
  (some true)
def laws_eqLinkS_L2 (n : Nat) : Nat → (List Link) → (List Link) → Int → Option ((Unit) ⊕ (Bool))
  | 0,_,_,_ => none
  | mo2 + 1,x0,x1,y1 => (bif (decide (y1 < (x0.length : Int))) then ((idx x0 y1).bind fun v3 => ((idx x1 y1).bind fun v4 => ((laws_eqLinkF n v3 v4).bind fun r5 => (bif (!r5) then (some (Sum.inr false)) else (laws_eqLinkS_L2 n mo2 x0 x1 (IntKind.wrap .i64 (y1 + 1))))))) else (some (Sum.inl ())))
def laws_eqLinkSF (n : Nat) (x0 : (List Link)) (x1 : (List Link)) : Option (Bool) :=
  (bif ((x0.length : Int) != (x1.length : Int)) then (some false) else ((laws_eqLinkS_L2 n n x0 x1 0).bind fun o => match o with | .inl _ => (laws_eqLinkS_J1 n) | .inr r => some r))
noncomputable abbrev G19 (k : Nat) := Rg Tryz.f19 k
theorem laws_eqLinkS (n : Nat) (x0 : (List Link)) (x1 : (List Link)) (r : Bool) (H : laws_eqLinkSF n x0 x1 = some r) : LCall Tryz.prog 19 [.val false [.sl false 4 (CV.frzEs (x0.map Link.row))],.val false [.sl false 4 (CV.frzEs (x1.map Link.row))]] [.val false [.lit (.bool r)]] [] := by
 refine LCall.of_body tOk Tryz.func19 rfl (c := (.seq (G19 0) (.seq (.seq (G19 1) (.cond (.tmp 10) (.seq (G19 2) .ret) .skip)) (.seq (.seq (G19 3) (.block 0 (.loop (.seq (.seq (G19 4) (.cond (.tmp 14) .skip (.exit 0))) (.seq (.block 1 (.seq (Rd Tryz.f19 6) (.cond (.tmp 26) (.seq (G19 7) .ret) .skip))) (G19 5)))))) (.seq (G19 8) .ret))))) kr (Nat.le_of_ble_eq_true kr) 0 (rs := [.tmp 4]) rfl [] .nil [(false,[.lit (.bool r)])] [] [] fun cx => ?_
 show Tr _ _ _ ⟨27,0,[sC 0 (cF 4 x0 Link.row),sC 1 (cF 4 x1 Link.row)],[]⟩ _
 unfold laws_eqLinkSF at H
 refine tG 1 3 0 kr kr ?_
 refine tS ?_
 refine rU 1 kr ?_
 refine lL 26 3 126 6 7 none ⟨(.slot 6),[],0,false,4,(CV.frzEs (x0.map Link.row))⟩ (x0).length _ kr kr kr kr kr (frz_len _ _) rfl ?_
 refine lU 1 kr ?_
 refine lL 26 3 126 8 9 none ⟨(.slot 8),[],0,false,4,(CV.frzEs (x1.map Link.row))⟩ (x1).length _ kr kr kr kr kr (frz_len _ _) rfl ?_
 refine uD 1 1027 0 kr kr ?_
 obtain ⟨h1,H⟩ | ⟨h1,H⟩ := bC H
 ·refine tF h1 kr ?_
  refine tK ?_
  refine tS ?_
  refine tG 1 35 0 kr kr ?_
  obtain ⟨o2,eo2,Ho2⟩ := bind_some H
  clear H
  refine Tr.mid (ι := Unit) (fun v => ⟨27,0,[],[]⟩) (fun v => laws_eqLinkS_J1 n = some r) ?_ ?_
  ·refine tB ?_
   refine Tr.loop (ι := Nat × (Int)) (fun v => ⟨27,0,[sI 5 v.2,sC 0 (cF 4 x0 Link.row),sC 1 (cF 4 x1 Link.row)],[]⟩) (fun v => laws_eqLinkS_L2 n v.1 x0 x1 v.2 = some o2) (fun v => v.1) (n,0) eo2 (St.sub_of [5,0,1] [] kr) ?_
   rintro ⟨mo2,y1⟩ H
   have H : laws_eqLinkS_L2 n mo2 x0 x1 y1 = some o2 := H
   obtain _ | mo2 := mo2
   ·cases (show (none : Option _) = some o2 from H)
   rw [laws_eqLinkS_L2] at H
   refine tS ?_
   refine rU 2 kr ?_
   refine lL 26 3 126 12 13 none ⟨(.slot 12),[],0,false,4,(CV.frzEs (x0.map Link.row))⟩ (x0).length _ kr kr kr kr kr (frz_len _ _) rfl ?_
   refine uD 1 16419 0 kr kr ?_
   obtain ⟨h2,H⟩ | ⟨h2,H⟩ := bC H
   ·refine tF h2 kr ?_
    refine Tr.exit ?_
    refine And.intro (fun _ => ?_) (fun h => absurd rfl h)
    obtain rfl := si H
    have H := Ho2
    dsimp only at H
    exact jn () H (sB_ [] [] kr)
   refine tT h2 kr ?_
   refine tK ?_
   refine tS ?_
   refine tB ?_
   obtain ⟨v3,ev3,H⟩ := bind_some H
   obtain ⟨v4,ev4,H⟩ := bind_some H
   obtain ⟨r5,er5,H⟩ := bind_some H
   refine Tr.draws mixed 10 kr ⟨27,0,[sB 26 (!r5),sI 5 y1,sC 0 (cF 4 x0 Link.row),sC 1 (cF 4 x1 Link.row)],[]⟩ (fun cx => ?_) ?_
   ·refine aU [(0,[]),(1,[])] 8 [] [1,0] rfl kr (fun cx => ?_)
    refine aI 2 26 0 17 18 19 none ⟨(.slot 17),[],0,false,4,(CV.frzEs (x0.map Link.row))⟩ y1 (Link.row v3) _ kr kr kr kr kr kr rfl (idx_isF ev3) rfl (fun cx => ?_)
    refine aU [(3,[]),(4,[]),(5,[])] 4 [] [5,4,3,2,1,0] rfl kr (fun cx => ?_)
    refine aI 6 26 0 21 22 23 none ⟨(.slot 21),[],0,false,4,(CV.frzEs (x1.map Link.row))⟩ y1 (Link.row v4) _ kr kr kr kr kr kr rfl (idx_isF ev4) rfl (fun cx => ?_)
    refine aU [(7,[])] 2 [] [7,6,5,4,3,2,1,0] rfl kr (fun cx => ?_)
    refine b1 8 kr kr ?_
    refine lV [.rd,.rd] [] (laws_eqLink n v3 v4 r5 er5) kr kr kr kr (.inl rfl) ?_
    refine lF kr kr kr ?_
    refine aU [(9,[])] 0 [] [9,8,7,6,5,4,3,2,1,0] rfl kr (fun cx => ?_)
    exact AT.done [26,5,0,1] [] _ kr kr rfl
   refine tO ⟨27,0,[sB 26 (!r5),sI 5 y1,sC 0 (cF 4 x0 Link.row),sC 1 (cF 4 x1 Link.row)],[]⟩ kr ?_
   cases h3 : (!r5)
   ·have H := bifF h3 H
    refine tf kr ?_
    refine tK ?_
    refine tE 3 35 0 kr kr ?_
    exact jn (mo2,(w6 (y1 + 1))) H (sM mo2 [5,0,1] [] kr)
   have H := bifT h3 H
   refine tt kr ?_
   refine tG 1 16 0 kr kr ?_
   refine te ?_
   obtain rfl := si H
   have H := Ho2
   dsimp only at H
   obtain rfl := si H
   exact fO [(false,[cB false])] kr rfl rfl
  rintro _ H
  have H : (laws_eqLinkS_J1 n) = some r := H
  unfold laws_eqLinkS_J1 at H
  refine tG 1 16 0 kr kr ?_
  exact te (by obtain rfl := si H; exact fO [(false,[cB true])] kr rfl rfl)
 refine tT h1 kr ?_
 refine tG 1 16 0 kr kr ?_
 exact te (by obtain rfl := si H; exact fO [(false,[cB false])] kr rfl rfl)
def laws_eqSayF (n : Nat) (x0 : Say) (x1 : Say) : Option (Bool) :=
  (bif (x0.Link != x1.Link) then (some false) else (bif (!(x0.Back == x1.Back)) then (some false) else ((laws_eqVecF n x0.V x1.V).bind fun r1 => (bif (!r1) then (some false) else (some true)))))
noncomputable abbrev G184 (k : Nat) := Rg Tryz.f184 k
theorem laws_eqSay (n : Nat) (x0 : Say) (x1 : Say) (r : Bool) (H : laws_eqSayF n x0 x1 = some r) : LCall Tryz.prog 184 [.val true (CV.frzRow (Say.row x0)),.val true (CV.frzRow (Say.row x1))] [.val false [.lit (.bool r)]] [] := by
 refine LCall.of_body tOk Tryz.func184 rfl (c := (.seq (G184 0) (.seq (.seq (G184 1) (.cond (.tmp 9) (.seq (G184 2) .ret) .skip)) (.seq (.seq (G184 3) (.cond (.tmp 14) (.seq (G184 4) .ret) .skip)) (.seq (.seq (G184 5) (.cond (.tmp 20) (.seq (G184 6) .ret) .skip)) (.seq (G184 7) .ret)))))) kr (Nat.le_of_ble_eq_true kr) 0 (rs := [.tmp 4]) rfl [] .nil [(false,[.lit (.bool r)])] [] [] fun cx => ?_
 show Tr _ _ _ ⟨21,0,[sV 0 (Say.row x0),sV 1 (Say.row x1)],[]⟩ _
 unfold laws_eqSayF at H
 refine tG 3 12 12 kr kr ?_
 refine tS ?_
 refine tG 5 524 12 kr kr ?_
 obtain ⟨h1,H⟩ | ⟨h1,H⟩ := bC H
 ·refine tF h1 kr ?_
  refine tK ?_
  refine tS ?_
  refine tG 5 16396 12 kr kr ?_
  obtain ⟨h2,H⟩ | ⟨h2,H⟩ := bC H
  ·refine tF h2 kr ?_
   refine tK ?_
   refine tS ?_
   refine rU 4 kr ?_
   obtain ⟨r1,er1,H⟩ := bind_some H
   refine lV [.rd,.rd] [] (laws_eqVec n x0.V x1.V r1 er1) kr kr kr kr (.inl rfl) ?_
   refine uD 1 1048576 0 kr kr ?_
   obtain ⟨h3,H⟩ | ⟨h3,H⟩ := bC H
   ·refine tF h3 kr ?_
    refine tK ?_
    refine tG 1 16 0 kr kr ?_
    exact te (by obtain rfl := si H; exact fO [(false,[cB true])] kr rfl rfl)
   refine tT h3 kr ?_
   refine tG 1 16 0 kr kr ?_
   exact te (by obtain rfl := si H; exact fO [(false,[cB false])] kr rfl rfl)
  refine tT h2 kr ?_
  refine tG 1 16 0 kr kr ?_
  exact te (by obtain rfl := si H; exact fO [(false,[cB false])] kr rfl rfl)
 refine tT h1 kr ?_
 refine tG 1 16 0 kr kr ?_
 exact te (by obtain rfl := si H; exact fO [(false,[cB false])] kr rfl rfl)
def laws_eqSayS_J1 (n : Nat) : Option (Bool) :=
  (some true)
def laws_eqSayS_L2 (n : Nat) : Nat → (List Say) → (List Say) → Int → Option ((Unit) ⊕ (Bool))
  | 0,_,_,_ => none
  | mo2 + 1,x0,x1,y1 => (bif (decide (y1 < (x0.length : Int))) then ((idx x0 y1).bind fun v3 => ((idx x1 y1).bind fun v4 => ((laws_eqSayF n v3 v4).bind fun r5 => (bif (!r5) then (some (Sum.inr false)) else (laws_eqSayS_L2 n mo2 x0 x1 (IntKind.wrap .i64 (y1 + 1))))))) else (some (Sum.inl ())))
def laws_eqSaySF (n : Nat) (x0 : (List Say)) (x1 : (List Say)) : Option (Bool) :=
  (bif ((x0.length : Int) != (x1.length : Int)) then (some false) else ((laws_eqSayS_L2 n n x0 x1 0).bind fun o => match o with | .inl _ => (laws_eqSayS_J1 n) | .inr r => some r))
noncomputable abbrev G84 (k : Nat) := Rg Tryz.f84 k
theorem laws_eqSayS (n : Nat) (x0 : (List Say)) (x1 : (List Say)) (r : Bool) (H : laws_eqSaySF n x0 x1 = some r) : LCall Tryz.prog 84 [.val false [.sl false 7 (CV.frzEs (x0.map Say.row))],.val false [.sl false 7 (CV.frzEs (x1.map Say.row))]] [.val false [.lit (.bool r)]] [] := by
 refine LCall.of_body tOk Tryz.func84 rfl (c := (.seq (G84 0) (.seq (.seq (G84 1) (.cond (.tmp 10) (.seq (G84 2) .ret) .skip)) (.seq (.seq (G84 3) (.block 0 (.loop (.seq (.seq (G84 4) (.cond (.tmp 14) .skip (.exit 0))) (.seq (.block 1 (.seq (Rd Tryz.f84 6) (.cond (.tmp 26) (.seq (G84 7) .ret) .skip))) (G84 5)))))) (.seq (G84 8) .ret))))) kr (Nat.le_of_ble_eq_true kr) 0 (rs := [.tmp 4]) rfl [] .nil [(false,[.lit (.bool r)])] [] [] fun cx => ?_
 show Tr _ _ _ ⟨27,0,[sC 0 (cF 7 x0 Say.row),sC 1 (cF 7 x1 Say.row)],[]⟩ _
 unfold laws_eqSaySF at H
 refine tG 1 3 0 kr kr ?_
 refine tS ?_
 refine rU 1 kr ?_
 refine lL 27 3 195 6 7 none ⟨(.slot 6),[],0,false,7,(CV.frzEs (x0.map Say.row))⟩ (x0).length _ kr kr kr kr kr (frz_len _ _) rfl ?_
 refine lU 1 kr ?_
 refine lL 27 3 195 8 9 none ⟨(.slot 8),[],0,false,7,(CV.frzEs (x1.map Say.row))⟩ (x1).length _ kr kr kr kr kr (frz_len _ _) rfl ?_
 refine uD 1 1027 0 kr kr ?_
 obtain ⟨h1,H⟩ | ⟨h1,H⟩ := bC H
 ·refine tF h1 kr ?_
  refine tK ?_
  refine tS ?_
  refine tG 1 35 0 kr kr ?_
  obtain ⟨o2,eo2,Ho2⟩ := bind_some H
  clear H
  refine Tr.mid (ι := Unit) (fun v => ⟨27,0,[],[]⟩) (fun v => laws_eqSayS_J1 n = some r) ?_ ?_
  ·refine tB ?_
   refine Tr.loop (ι := Nat × (Int)) (fun v => ⟨27,0,[sI 5 v.2,sC 0 (cF 7 x0 Say.row),sC 1 (cF 7 x1 Say.row)],[]⟩) (fun v => laws_eqSayS_L2 n v.1 x0 x1 v.2 = some o2) (fun v => v.1) (n,0) eo2 (St.sub_of [5,0,1] [] kr) ?_
   rintro ⟨mo2,y1⟩ H
   have H : laws_eqSayS_L2 n mo2 x0 x1 y1 = some o2 := H
   obtain _ | mo2 := mo2
   ·cases (show (none : Option _) = some o2 from H)
   rw [laws_eqSayS_L2] at H
   refine tS ?_
   refine rU 2 kr ?_
   refine lL 27 3 195 12 13 none ⟨(.slot 12),[],0,false,7,(CV.frzEs (x0.map Say.row))⟩ (x0).length _ kr kr kr kr kr (frz_len _ _) rfl ?_
   refine uD 1 16419 0 kr kr ?_
   obtain ⟨h2,H⟩ | ⟨h2,H⟩ := bC H
   ·refine tF h2 kr ?_
    refine Tr.exit ?_
    refine And.intro (fun _ => ?_) (fun h => absurd rfl h)
    obtain rfl := si H
    have H := Ho2
    dsimp only at H
    exact jn () H (sB_ [] [] kr)
   refine tT h2 kr ?_
   refine tK ?_
   refine tS ?_
   refine tB ?_
   obtain ⟨v3,ev3,H⟩ := bind_some H
   obtain ⟨v4,ev4,H⟩ := bind_some H
   obtain ⟨r5,er5,H⟩ := bind_some H
   refine Tr.draws mixed 10 kr ⟨27,0,[sB 26 (!r5),sI 5 y1,sC 0 (cF 7 x0 Say.row),sC 1 (cF 7 x1 Say.row)],[]⟩ (fun cx => ?_) ?_
   ·refine aU [(0,[]),(1,[])] 8 [] [1,0] rfl kr (fun cx => ?_)
    refine aI 2 27 0 17 18 19 none ⟨(.slot 17),[],0,false,7,(CV.frzEs (x0.map Say.row))⟩ y1 (Say.row v3) _ kr kr kr kr kr kr rfl (idx_isF ev3) rfl (fun cx => ?_)
    refine aU [(3,[]),(4,[]),(5,[])] 4 [] [5,4,3,2,1,0] rfl kr (fun cx => ?_)
    refine aI 6 27 0 21 22 23 none ⟨(.slot 21),[],0,false,7,(CV.frzEs (x1.map Say.row))⟩ y1 (Say.row v4) _ kr kr kr kr kr kr rfl (idx_isF ev4) rfl (fun cx => ?_)
    refine aU [(7,[])] 2 [] [7,6,5,4,3,2,1,0] rfl kr (fun cx => ?_)
    refine b1 8 kr kr ?_
    refine lV [.rd,.rd] [] (laws_eqSay n v3 v4 r5 er5) kr kr kr kr (.inl rfl) ?_
    refine lF kr kr kr ?_
    refine aU [(9,[])] 0 [] [9,8,7,6,5,4,3,2,1,0] rfl kr (fun cx => ?_)
    exact AT.done [26,5,0,1] [] _ kr kr rfl
   refine tO ⟨27,0,[sB 26 (!r5),sI 5 y1,sC 0 (cF 7 x0 Say.row),sC 1 (cF 7 x1 Say.row)],[]⟩ kr ?_
   cases h3 : (!r5)
   ·have H := bifF h3 H
    refine tf kr ?_
    refine tK ?_
    refine tE 3 35 0 kr kr ?_
    exact jn (mo2,(w6 (y1 + 1))) H (sM mo2 [5,0,1] [] kr)
   have H := bifT h3 H
   refine tt kr ?_
   refine tG 1 16 0 kr kr ?_
   refine te ?_
   obtain rfl := si H
   have H := Ho2
   dsimp only at H
   obtain rfl := si H
   exact fO [(false,[cB false])] kr rfl rfl
  rintro _ H
  have H : (laws_eqSayS_J1 n) = some r := H
  unfold laws_eqSayS_J1 at H
  refine tG 1 16 0 kr kr ?_
  exact te (by obtain rfl := si H; exact fO [(false,[cB true])] kr rfl rfl)
 refine tT h1 kr ?_
 refine tG 1 16 0 kr kr ?_
 exact te (by obtain rfl := si H; exact fO [(false,[cB false])] kr rfl rfl)
def laws_eqNetF (n : Nat) (x0 : Net) (x1 : Net) : Option (Bool) :=
  ((laws_eqBridgeSF n x0.Bridges x1.Bridges).bind fun r1 => (bif (!r1) then (some false) else ((laws_eqLinkSF n x0.Links x1.Links).bind fun r2 => (bif (!r2) then (some false) else ((laws_eqSaySF n x0.Said x1.Said).bind fun r3 => (bif (!r3) then (some false) else (some true)))))))
noncomputable abbrev G17 (k : Nat) := Rg Tryz.f17 k
theorem laws_eqNet (n : Nat) (x0 : Net) (x1 : Net) (r : Bool) (H : laws_eqNetF n x0 x1 = some r) : LCall Tryz.prog 17 [.val true (CV.frzRow (Net.row x0)),.val true (CV.frzRow (Net.row x1))] [.val false [.lit (.bool r)]] [] := by
 refine LCall.of_body tOk Tryz.func17 rfl (c := (.seq (G17 0) (.seq (.seq (G17 1) (.cond (.tmp 10) (.seq (G17 2) .ret) .skip)) (.seq (.seq (G17 3) (.cond (.tmp 16) (.seq (G17 4) .ret) .skip)) (.seq (.seq (G17 5) (.cond (.tmp 22) (.seq (G17 6) .ret) .skip)) (.seq (G17 7) .ret)))))) kr (Nat.le_of_ble_eq_true kr) 0 (rs := [.tmp 4]) rfl [] .nil [(false,[.lit (.bool r)])] [] [] fun cx => ?_
 show Tr _ _ _ ⟨23,0,[sV 0 (CV.frzRow (Net.row x0)),sV 1 (CV.frzRow (Net.row x1))],[]⟩ _
 unfold laws_eqNetF at H
 refine tG 3 12 12 kr kr ?_
 refine tS ?_
 refine rU 4 kr ?_
 obtain ⟨r1,er1,H⟩ := bind_some H
 refine lV [.rd,.rd] [] (laws_eqBridgeS n x0.Bridges x1.Bridges r1 er1) kr kr kr kr (.inl rfl) ?_
 refine uD 1 1036 12 kr kr ?_
 obtain ⟨h1,H⟩ | ⟨h1,H⟩ := bC H
 ·refine tF h1 kr ?_
  refine tK ?_
  refine tS ?_
  refine rU 4 kr ?_
  obtain ⟨r2,er2,H⟩ := bind_some H
  refine lV [.rd,.rd] [] (laws_eqLinkS n x0.Links x1.Links r2 er2) kr kr kr kr (.inl rfl) ?_
  refine uD 1 65548 12 kr kr ?_
  obtain ⟨h2,H⟩ | ⟨h2,H⟩ := bC H
  ·refine tF h2 kr ?_
   refine tK ?_
   refine tS ?_
   refine rU 4 kr ?_
   obtain ⟨r3,er3,H⟩ := bind_some H
   refine lV [.rd,.rd] [] (laws_eqSayS n x0.Said x1.Said r3 er3) kr kr kr kr (.inl rfl) ?_
   refine uD 1 4194304 0 kr kr ?_
   obtain ⟨h3,H⟩ | ⟨h3,H⟩ := bC H
   ·refine tF h3 kr ?_
    refine tK ?_
    refine tG 1 16 0 kr kr ?_
    exact te (by obtain rfl := si H; exact fO [(false,[cB true])] kr rfl rfl)
   refine tT h3 kr ?_
   refine tG 1 16 0 kr kr ?_
   exact te (by obtain rfl := si H; exact fO [(false,[cB false])] kr rfl rfl)
  refine tT h2 kr ?_
  refine tG 1 16 0 kr kr ?_
  exact te (by obtain rfl := si H; exact fO [(false,[cB false])] kr rfl rfl)
 refine tT h1 kr ?_
 refine tG 1 16 0 kr kr ?_
 exact te (by obtain rfl := si H; exact fO [(false,[cB false])] kr rfl rfl)
def laws_markText_J1 (n : Nat) (y3 : ByteArray) : Option (ByteArray) :=
  (bif (decide ((⟨#[109]⟩ : ByteArray).size + y3.size ≤ 268435456)) then (some ((⟨#[109]⟩ : ByteArray) ++ y3)) else none)
def laws_markText_L2 (n : Nat) : Nat → ByteArray → Int → Option ((ByteArray) ⊕ (ByteArray))
  | 0,_,_ => none
  | mo5 + 1,y1,y2 => (bif (decide (y2 > 0)) then (bif (decide ((10 : Int) ≠ 0)) then (bif (decide ((strOf [(IntKind.wrap .u8 (IntKind.wrap .i64 (48 + (Int.tmod y2 10))))]).size + y1.size ≤ 268435456)) then (bif (decide ((10 : Int) ≠ 0)) then (laws_markText_L2 n mo5 ((strOf [(IntKind.wrap .u8 (IntKind.wrap .i64 (48 + (Int.tmod y2 10))))]) ++ y1) (IntKind.wrap .i64 (Int.tdiv y2 10))) else none) else none) else none) else (some (Sum.inl y1)))
def laws_markTextF (n : Nat) (x0 : Int) : Option (ByteArray) :=
  (bif (decide (x0 ≤ 0)) then (some (⟨#[109,48]⟩ : ByteArray)) else ((laws_markText_L2 n n (⟨#[]⟩ : ByteArray) x0).bind fun o => match o with | .inl y3 => (laws_markText_J1 n y3) | .inr r => some r))
noncomputable abbrev G185 (k : Nat) := Rg Tryz.f185 k
theorem laws_markText (n : Nat) (x0 : Int) (r : ByteArray) (H : laws_markTextF n x0 = some r) : LCall Tryz.prog 185 [.val false [.lit (.int .i64 x0)]] [.val false [.lit (.string r)]] [] := by
 refine LCall.of_body tOk Tryz.func185 rfl (c := (.seq (G185 0) (.seq (.seq (G185 1) (.cond (.tmp 5) (.seq (G185 2) .ret) .skip)) (.seq (G185 3) (.seq (.block 0 (.loop (.seq (.seq (G185 4) (.cond (.tmp 7) .skip (.exit 0))) (.block 1 (.seq (G185 5) (G185 6)))))) (.seq (G185 7) .ret)))))) kr (Nat.le_of_ble_eq_true kr) 0 (rs := [.tmp 2]) rfl [] .nil [(false,[.lit (.string r)])] [] [] fun cx => ?_
 show Tr _ _ _ ⟨20,0,[sI 0 x0],[]⟩ _
 unfold laws_markTextF at H
 refine tG 1 1 0 kr kr ?_
 refine tS ?_
 refine tG 2 33 0 kr kr ?_
 obtain ⟨h1,H⟩ | ⟨h1,H⟩ := bC H
 ·refine tF h1 kr ?_
  refine tK ?_
  refine tG 1 9 0 kr kr ?_
  refine tS ?_
  obtain ⟨o5,eo5,Ho5⟩ := bind_some H
  clear H
  refine Tr.mid (ι := ByteArray) (fun v => ⟨20,0,[sC 3 (cS v)],[]⟩) (fun v => laws_markText_J1 n v = some r) ?_ ?_
  ·refine tB ?_
   refine Tr.loop (ι := Nat × (ByteArray × Int)) (fun v => ⟨20,0,[sC 3 (cS v.2.1),sI 0 v.2.2],[]⟩) (fun v => laws_markText_L2 n v.1 v.2.1 v.2.2 = some o5) (fun v => v.1) (n,((⟨#[]⟩ : ByteArray),x0)) eo5 (St.sub_of [3,0] [] kr) ?_
   rintro ⟨mo5,y1,y2⟩ H
   have H : laws_markText_L2 n mo5 y1 y2 = some o5 := H
   obtain _ | mo5 := mo5
   ·cases (show (none : Option _) = some o5 from H)
   rw [laws_markText_L2] at H
   refine tS ?_
   refine tG 2 137 0 kr kr ?_
   obtain ⟨h2,H⟩ | ⟨h2,H⟩ := bC H
   ·refine tF h2 kr ?_
    refine Tr.exit ?_
    refine And.intro (fun _ => ?_) (fun h => absurd rfl h)
    obtain rfl := si H
    have H := Ho5
    dsimp only at H
    exact jn y1 H (sB_ [3] [] kr)
   refine tT h2 kr ?_
   refine tK ?_
   refine tB ?_
   refine rU 1 kr ?_
   obtain ⟨hg6,H⟩ := guard_some H
   refine LAt.binC tOk (op := .rem) (t := 3) (ty := 3) (ty' := 3) (x := (.tmp 8)) (y := (.const (.int .i64 10))) (d := 9) (g := none) (.int .i64 y2) (.int .i64 10) (.int .i64 (Int.tmod y2 10)) _ kr kr kr kr kr (φ := (IntKind.i64 = IntKind.i64 ∧ (10 : Int) ≠ 0)) kr (⟨rfl,of_decide_eq_true hg6⟩) rfl ?_
   refine lU 3 kr ?_
   refine LAt.b2s tOk (t := 47) (u := 9) (ty := 9) (x := (.tmp 12)) (d := 13) (g := none) ⟨(.slot 12),[],0,true,1,([(IntKind.wrap .u8 (w6 (48 + (Int.tmod y2 10))))].map byteRow)⟩ [(IntKind.wrap .u8 (w6 (48 + (Int.tmod y2 10))))] kr kr kr kr kr kr kr (.inl rfl) ?_
   refine lU 1 kr ?_
   obtain ⟨hg7,H⟩ := guard_some H
   refine LAt.cat tOk (t := 9) (u := 9) (ty := 9) (x := (.tmp 13)) (y := (.tmp 14)) (d := 15) (g := none) (strOf [(IntKind.wrap .u8 (w6 (48 + (Int.tmod y2 10))))]) y1 kr kr kr kr kr kr hg7 ?_
   refine uD 1 9 0 kr kr ?_
   refine Tr.at ?_
   refine lU 1 kr ?_
   obtain ⟨hg8,H⟩ := guard_some H
   refine LAt.binC tOk (op := .quo) (t := 3) (ty := 3) (ty' := 3) (x := (.tmp 16)) (y := (.const (.int .i64 10))) (d := 17) (g := none) (.int .i64 y2) (.int .i64 10) (.int .i64 (w6 (Int.tdiv y2 10))) _ kr kr kr kr kr (φ := (IntKind.i64 = IntKind.i64 ∧ (10 : Int) ≠ 0)) kr (⟨rfl,of_decide_eq_true hg8⟩) rfl ?_
   refine uD 1 9 0 kr kr ?_
   exact jn (mo5,(((strOf [(IntKind.wrap .u8 (w6 (48 + (Int.tmod y2 10))))]) ++ y1),(w6 (Int.tdiv y2 10)))) H (sM mo5 [3,0] [] kr)
  rintro y3 H
  have H : (laws_markText_J1 n y3) = some r := H
  unfold laws_markText_J1 at H
  refine rU 1 kr ?_
  obtain ⟨hg4,H⟩ := guard_some H
  refine LAt.cat tOk (t := 9) (u := 9) (ty := 9) (x := (.const (.string (⟨#[109]⟩ : ByteArray)))) (y := (.tmp 18)) (d := 19) (g := none) (⟨#[109]⟩ : ByteArray) y3 kr kr kr kr kr kr hg4 ?_
  refine uD 1 4 0 kr kr ?_
  exact te (by obtain rfl := si H; exact fO [(false,[cS ((⟨#[109]⟩ : ByteArray) ++ y3)])] kr rfl rfl)
 refine tT h1 kr ?_
 refine tG 1 4 0 kr kr ?_
 exact te (by obtain rfl := si H; exact fO [(false,[cS (⟨#[109,48]⟩ : ByteArray)])] kr rfl rfl)
def laws_markPtS_J1 (n : Nat) (y4 : (List Pt)) (y5 : Int) : Option (Int × (List Pt)) :=
  (some (y5,y4))
def laws_markPtS_L2 (n : Nat) : Nat → Int → (List Pt) → Int → Option (((List Pt) × Int) ⊕ (Int × (List Pt)))
  | 0,_,_,_ => none
  | mo6 + 1,y1,y2,y3 => (bif (decide (y1 < (y2.length : Int))) then (bif (decide ((3 : Int) ≠ 0)) then ((idx y2 y1).bind fun v8 => ((idx (y2.set (y1.toNat) (⟨((Int.tmod y3 3) == 0),v8.Cost,v8.Has,v8.Heard⟩ : Pt)) y1).bind fun v9 => (bif (decide ((3 : Int) ≠ 0)) then ((idx ((y2.set (y1.toNat) (⟨((Int.tmod y3 3) == 0),v8.Cost,v8.Has,v8.Heard⟩ : Pt)).set (y1.toNat) (⟨v9.Up,(IntKind.wrap .i64 (y3 + 1)),v9.Has,v9.Heard⟩ : Pt)) y1).bind fun v11 => ((idx (((y2.set (y1.toNat) (⟨((Int.tmod y3 3) == 0),v8.Cost,v8.Has,v8.Heard⟩ : Pt)).set (y1.toNat) (⟨v9.Up,(IntKind.wrap .i64 (y3 + 1)),v9.Has,v9.Heard⟩ : Pt)).set (y1.toNat) (⟨v11.Up,v11.Cost,((Int.tmod (IntKind.wrap .i64 ((IntKind.wrap .i64 (y3 + 1)) + 1)) 3) == 0),v11.Heard⟩ : Pt)) y1).bind fun v12 => ((idx ((((y2.set (y1.toNat) (⟨((Int.tmod y3 3) == 0),v8.Cost,v8.Has,v8.Heard⟩ : Pt)).set (y1.toNat) (⟨v9.Up,(IntKind.wrap .i64 (y3 + 1)),v9.Has,v9.Heard⟩ : Pt)).set (y1.toNat) (⟨v11.Up,v11.Cost,((Int.tmod (IntKind.wrap .i64 ((IntKind.wrap .i64 (y3 + 1)) + 1)) 3) == 0),v11.Heard⟩ : Pt)).set (y1.toNat) (⟨v12.Up,v12.Cost,v12.Has,(⟨(IntKind.wrap .i64 ((IntKind.wrap .i64 ((IntKind.wrap .i64 (y3 + 1)) + 1)) + 1)),v12.Heard.Cost,v12.Heard.Hops,v12.Heard.Bridge,v12.Heard.Port⟩ : Vec)⟩ : Pt)) y1).bind fun v13 => ((idx (((((y2.set (y1.toNat) (⟨((Int.tmod y3 3) == 0),v8.Cost,v8.Has,v8.Heard⟩ : Pt)).set (y1.toNat) (⟨v9.Up,(IntKind.wrap .i64 (y3 + 1)),v9.Has,v9.Heard⟩ : Pt)).set (y1.toNat) (⟨v11.Up,v11.Cost,((Int.tmod (IntKind.wrap .i64 ((IntKind.wrap .i64 (y3 + 1)) + 1)) 3) == 0),v11.Heard⟩ : Pt)).set (y1.toNat) (⟨v12.Up,v12.Cost,v12.Has,(⟨(IntKind.wrap .i64 ((IntKind.wrap .i64 ((IntKind.wrap .i64 (y3 + 1)) + 1)) + 1)),v12.Heard.Cost,v12.Heard.Hops,v12.Heard.Bridge,v12.Heard.Port⟩ : Vec)⟩ : Pt)).set (y1.toNat) (⟨v13.Up,v13.Cost,v13.Has,(⟨v13.Heard.Root,(IntKind.wrap .i64 ((IntKind.wrap .i64 ((IntKind.wrap .i64 ((IntKind.wrap .i64 (y3 + 1)) + 1)) + 1)) + 1)),v13.Heard.Hops,v13.Heard.Bridge,v13.Heard.Port⟩ : Vec)⟩ : Pt)) y1).bind fun v14 => ((idx ((((((y2.set (y1.toNat) (⟨((Int.tmod y3 3) == 0),v8.Cost,v8.Has,v8.Heard⟩ : Pt)).set (y1.toNat) (⟨v9.Up,(IntKind.wrap .i64 (y3 + 1)),v9.Has,v9.Heard⟩ : Pt)).set (y1.toNat) (⟨v11.Up,v11.Cost,((Int.tmod (IntKind.wrap .i64 ((IntKind.wrap .i64 (y3 + 1)) + 1)) 3) == 0),v11.Heard⟩ : Pt)).set (y1.toNat) (⟨v12.Up,v12.Cost,v12.Has,(⟨(IntKind.wrap .i64 ((IntKind.wrap .i64 ((IntKind.wrap .i64 (y3 + 1)) + 1)) + 1)),v12.Heard.Cost,v12.Heard.Hops,v12.Heard.Bridge,v12.Heard.Port⟩ : Vec)⟩ : Pt)).set (y1.toNat) (⟨v13.Up,v13.Cost,v13.Has,(⟨v13.Heard.Root,(IntKind.wrap .i64 ((IntKind.wrap .i64 ((IntKind.wrap .i64 ((IntKind.wrap .i64 (y3 + 1)) + 1)) + 1)) + 1)),v13.Heard.Hops,v13.Heard.Bridge,v13.Heard.Port⟩ : Vec)⟩ : Pt)).set (y1.toNat) (⟨v14.Up,v14.Cost,v14.Has,(⟨v14.Heard.Root,v14.Heard.Cost,(IntKind.wrap .i64 ((IntKind.wrap .i64 ((IntKind.wrap .i64 ((IntKind.wrap .i64 ((IntKind.wrap .i64 (y3 + 1)) + 1)) + 1)) + 1)) + 1)),v14.Heard.Bridge,v14.Heard.Port⟩ : Vec)⟩ : Pt)) y1).bind fun v15 => ((idx (((((((y2.set (y1.toNat) (⟨((Int.tmod y3 3) == 0),v8.Cost,v8.Has,v8.Heard⟩ : Pt)).set (y1.toNat) (⟨v9.Up,(IntKind.wrap .i64 (y3 + 1)),v9.Has,v9.Heard⟩ : Pt)).set (y1.toNat) (⟨v11.Up,v11.Cost,((Int.tmod (IntKind.wrap .i64 ((IntKind.wrap .i64 (y3 + 1)) + 1)) 3) == 0),v11.Heard⟩ : Pt)).set (y1.toNat) (⟨v12.Up,v12.Cost,v12.Has,(⟨(IntKind.wrap .i64 ((IntKind.wrap .i64 ((IntKind.wrap .i64 (y3 + 1)) + 1)) + 1)),v12.Heard.Cost,v12.Heard.Hops,v12.Heard.Bridge,v12.Heard.Port⟩ : Vec)⟩ : Pt)).set (y1.toNat) (⟨v13.Up,v13.Cost,v13.Has,(⟨v13.Heard.Root,(IntKind.wrap .i64 ((IntKind.wrap .i64 ((IntKind.wrap .i64 ((IntKind.wrap .i64 (y3 + 1)) + 1)) + 1)) + 1)),v13.Heard.Hops,v13.Heard.Bridge,v13.Heard.Port⟩ : Vec)⟩ : Pt)).set (y1.toNat) (⟨v14.Up,v14.Cost,v14.Has,(⟨v14.Heard.Root,v14.Heard.Cost,(IntKind.wrap .i64 ((IntKind.wrap .i64 ((IntKind.wrap .i64 ((IntKind.wrap .i64 ((IntKind.wrap .i64 (y3 + 1)) + 1)) + 1)) + 1)) + 1)),v14.Heard.Bridge,v14.Heard.Port⟩ : Vec)⟩ : Pt)).set (y1.toNat) (⟨v15.Up,v15.Cost,v15.Has,(⟨v15.Heard.Root,v15.Heard.Cost,v15.Heard.Hops,(IntKind.wrap .i64 ((IntKind.wrap .i64 ((IntKind.wrap .i64 ((IntKind.wrap .i64 ((IntKind.wrap .i64 ((IntKind.wrap .i64 (y3 + 1)) + 1)) + 1)) + 1)) + 1)) + 1)),v15.Heard.Port⟩ : Vec)⟩ : Pt)) y1).bind fun v16 => (laws_markPtS_L2 n mo6 (IntKind.wrap .i64 (y1 + 1)) ((((((((y2.set (y1.toNat) (⟨((Int.tmod y3 3) == 0),v8.Cost,v8.Has,v8.Heard⟩ : Pt)).set (y1.toNat) (⟨v9.Up,(IntKind.wrap .i64 (y3 + 1)),v9.Has,v9.Heard⟩ : Pt)).set (y1.toNat) (⟨v11.Up,v11.Cost,((Int.tmod (IntKind.wrap .i64 ((IntKind.wrap .i64 (y3 + 1)) + 1)) 3) == 0),v11.Heard⟩ : Pt)).set (y1.toNat) (⟨v12.Up,v12.Cost,v12.Has,(⟨(IntKind.wrap .i64 ((IntKind.wrap .i64 ((IntKind.wrap .i64 (y3 + 1)) + 1)) + 1)),v12.Heard.Cost,v12.Heard.Hops,v12.Heard.Bridge,v12.Heard.Port⟩ : Vec)⟩ : Pt)).set (y1.toNat) (⟨v13.Up,v13.Cost,v13.Has,(⟨v13.Heard.Root,(IntKind.wrap .i64 ((IntKind.wrap .i64 ((IntKind.wrap .i64 ((IntKind.wrap .i64 (y3 + 1)) + 1)) + 1)) + 1)),v13.Heard.Hops,v13.Heard.Bridge,v13.Heard.Port⟩ : Vec)⟩ : Pt)).set (y1.toNat) (⟨v14.Up,v14.Cost,v14.Has,(⟨v14.Heard.Root,v14.Heard.Cost,(IntKind.wrap .i64 ((IntKind.wrap .i64 ((IntKind.wrap .i64 ((IntKind.wrap .i64 ((IntKind.wrap .i64 (y3 + 1)) + 1)) + 1)) + 1)) + 1)),v14.Heard.Bridge,v14.Heard.Port⟩ : Vec)⟩ : Pt)).set (y1.toNat) (⟨v15.Up,v15.Cost,v15.Has,(⟨v15.Heard.Root,v15.Heard.Cost,v15.Heard.Hops,(IntKind.wrap .i64 ((IntKind.wrap .i64 ((IntKind.wrap .i64 ((IntKind.wrap .i64 ((IntKind.wrap .i64 ((IntKind.wrap .i64 (y3 + 1)) + 1)) + 1)) + 1)) + 1)) + 1)),v15.Heard.Port⟩ : Vec)⟩ : Pt)).set (y1.toNat) (⟨v16.Up,v16.Cost,v16.Has,(⟨v16.Heard.Root,v16.Heard.Cost,v16.Heard.Hops,v16.Heard.Bridge,(IntKind.wrap .i64 ((IntKind.wrap .i64 ((IntKind.wrap .i64 ((IntKind.wrap .i64 ((IntKind.wrap .i64 ((IntKind.wrap .i64 ((IntKind.wrap .i64 (y3 + 1)) + 1)) + 1)) + 1)) + 1)) + 1)) + 1))⟩ : Vec)⟩ : Pt)) (IntKind.wrap .i64 ((IntKind.wrap .i64 ((IntKind.wrap .i64 ((IntKind.wrap .i64 ((IntKind.wrap .i64 ((IntKind.wrap .i64 ((IntKind.wrap .i64 ((IntKind.wrap .i64 (y3 + 1)) + 1)) + 1)) + 1)) + 1)) + 1)) + 1)) + 1))))))))) else none))) else none) else (some (Sum.inl (y2,y3))))
def laws_markPtSF (n : Nat) (x0 : (List Pt)) (x1 : Int) : Option (Int × (List Pt)) :=
  ((laws_markPtS_L2 n n 0 x0 x1).bind fun o => match o with | .inl (y4,y5) => (laws_markPtS_J1 n y4 y5) | .inr r => some r)
noncomputable abbrev G122 (k : Nat) := Rg Tryz.f122 k
theorem laws_markPtS (n : Nat) (x0 : (List Pt)) (x1 : Int) (r : Int × (List Pt)) (H : laws_markPtSF n x0 x1 = some r) : LCall Tryz.prog 122 [.io false [.sl true 8 (x0.map Pt.row)],.val false [.lit (.int .i64 x1)]] [.val false [.lit (.int .i64 r.1)]] [(0,[.sl true 8 (r.2.map Pt.row)])] := by
 refine LCall.of_body tOk Tryz.func122 rfl (c := (.seq (G122 0) (.seq (.seq (G122 1) (.block 0 (.loop (.seq (.seq (G122 2) (.cond (.tmp 9) .skip (.exit 0))) (.seq (.block 1 (.seq (G122 4) (.seq (G122 5) (.seq (G122 6) (.seq (G122 7) (.seq (G122 8) (.seq (G122 9) (.seq (G122 10) (.seq (G122 11) (.seq (G122 12) (.seq (G122 13) (.seq (G122 14) (.seq (G122 15) (.seq (G122 16) (.seq (G122 17) (.seq (G122 18) (G122 19))))))))))))))))) (G122 3)))))) (.seq (G122 20) .ret)))) kr (Nat.le_of_ble_eq_true kr) 1 (rs := [.tmp 4]) rfl [0] (by decide) [(false,[.lit (.int .i64 r.1)])] [[.sl true 8 (r.2.map Pt.row)]] [] fun cx => ?_
 show Tr _ _ _ ⟨78,1,[sC 0 (cL 8 x0 Pt.row),sI 1 x1],[]⟩ _
 unfold laws_markPtSF at H
 refine tG 1 3 0 kr kr ?_
 refine tS ?_
 refine tG 1 35 0 kr kr ?_
 obtain ⟨o6,eo6,Ho6⟩ := bind_some H
 clear H
 refine Tr.mid (ι := (List Pt) × Int) (fun v => ⟨78,1,[sC 0 (cL 8 v.1 Pt.row),sI 1 v.2],[]⟩) (fun v => laws_markPtS_J1 n v.1 v.2 = some r) ?_ ?_
 ·refine tB ?_
  refine Tr.loop (ι := Nat × (Int × (List Pt) × Int)) (fun v => ⟨78,1,[sI 5 v.2.1,sC 0 (cL 8 v.2.2.1 Pt.row),sI 1 v.2.2.2],[]⟩) (fun v => laws_markPtS_L2 n v.1 v.2.1 v.2.2.1 v.2.2.2 = some o6) (fun v => v.1) (n,(0,x0,x1)) eo6 (St.sub_of [5,0,1] [] kr) ?_
  rintro ⟨mo6,y1,y2,y3⟩ H
  have H : laws_markPtS_L2 n mo6 y1 y2 y3 = some o6 := H
  obtain _ | mo6 := mo6
  ·cases (show (none : Option _) = some o6 from H)
  rw [laws_markPtS_L2] at H
  refine tS ?_
  refine rU 2 kr ?_
  refine lL 52 3 182 7 8 none ⟨(.slot 0),[],0,true,8,(y2.map Pt.row)⟩ (y2).length _ kr kr kr kr kr (map_len _ _) rfl ?_
  refine uD 1 547 0 kr kr ?_
  obtain ⟨h1,H⟩ | ⟨h1,H⟩ := bC H
  ·refine tF h1 kr ?_
   refine Tr.exit ?_
   refine And.intro (fun _ => ?_) (fun h => absurd rfl h)
   obtain rfl := si H
   have H := Ho6
   dsimp only at H
   exact jn (y2,y3) H (sB_ [0,1] [] kr)
  refine tT h1 kr ?_
  refine tK ?_
  refine tS ?_
  refine tB ?_
  refine rU 3 kr ?_
  obtain ⟨hg7,H⟩ := guard_some H
  refine LAt.binC tOk (op := .rem) (t := 3) (ty := 3) (ty' := 3) (x := (.tmp 14)) (y := (.const (.int .i64 3))) (d := 15) (g := none) (.int .i64 y3) (.int .i64 3) (.int .i64 (Int.tmod y3 3)) _ kr kr kr kr kr (φ := (IntKind.i64 = IntKind.i64 ∧ (3 : Int) ≠ 0)) kr (⟨rfl,of_decide_eq_true hg7⟩) rfl ?_
  refine lU 1 kr ?_
  obtain ⟨v8,ev8,H⟩ := bind_some H
  refine lO 52 0 12 13 17 none ⟨(.slot 0),[],0,true,8,(y2.map Pt.row)⟩ y1 (y1.toNat) (Pt.row v8) _ kr kr kr kr rfl kr (idx_isE ev8) rfl rfl ?_
  refine lU 1 kr ?_
  refine lW (t := 4) (ty := 0) (ad := (.tmp 18)) (x := (.tmp 16)) (g := none) (tI 4) false [cB ((Int.tmod y3 3) == 0)] 0 0 (y1.toNat) 8 0 8 y2 Pt.row v8 (⟨((Int.tmod y3 3) == 0),v8.Cost,v8.Has,v8.Heard⟩ : Pt) kr kr kr kr kr kr kr kr (idx_get ev8).2 kr kr kr kr ?_
  refine lD 35 0 kr ?_
  refine tG 3 35 0 kr kr ?_
  refine rU 3 kr ?_
  obtain ⟨v9,ev9,H⟩ := bind_some H
  refine lO 52 0 21 22 24 none ⟨(.slot 0),[],0,true,8,((y2.set (y1.toNat) (⟨((Int.tmod y3 3) == 0),v8.Cost,v8.Has,v8.Heard⟩ : Pt)).map Pt.row)⟩ y1 (y1.toNat) (Pt.row v9) _ kr kr kr kr rfl kr (idx_isE ev9) rfl rfl ?_
  refine lU 1 kr ?_
  refine lW (t := 3) (ty := 0) (ad := (.tmp 25)) (x := (.tmp 23)) (g := none) (tI 3) false [cI (w6 (y3 + 1))] 0 0 (y1.toNat) 8 1 8 (y2.set (y1.toNat) (⟨((Int.tmod y3 3) == 0),v8.Cost,v8.Has,v8.Heard⟩ : Pt)) Pt.row v9 (⟨v9.Up,(w6 (y3 + 1)),v9.Has,v9.Heard⟩ : Pt) kr kr kr kr kr kr kr kr (idx_get ev9).2 kr kr kr kr ?_
  refine lD 35 0 kr ?_
  refine tG 3 35 0 kr kr ?_
  refine rU 3 kr ?_
  obtain ⟨hg10,H⟩ := guard_some H
  refine LAt.binC tOk (op := .rem) (t := 3) (ty := 3) (ty' := 3) (x := (.tmp 30)) (y := (.const (.int .i64 3))) (d := 31) (g := none) (.int .i64 (w6 ((w6 (y3 + 1)) + 1))) (.int .i64 3) (.int .i64 (Int.tmod (w6 ((w6 (y3 + 1)) + 1)) 3)) _ kr kr kr kr kr (φ := (IntKind.i64 = IntKind.i64 ∧ (3 : Int) ≠ 0)) kr (⟨rfl,of_decide_eq_true hg10⟩) rfl ?_
  refine lU 1 kr ?_
  obtain ⟨v11,ev11,H⟩ := bind_some H
  refine lO 52 0 28 29 33 none ⟨(.slot 0),[],0,true,8,(((y2.set (y1.toNat) (⟨((Int.tmod y3 3) == 0),v8.Cost,v8.Has,v8.Heard⟩ : Pt)).set (y1.toNat) (⟨v9.Up,(w6 (y3 + 1)),v9.Has,v9.Heard⟩ : Pt)).map Pt.row)⟩ y1 (y1.toNat) (Pt.row v11) _ kr kr kr kr rfl kr (idx_isE ev11) rfl rfl ?_
  refine lU 1 kr ?_
  refine lW (t := 4) (ty := 0) (ad := (.tmp 34)) (x := (.tmp 32)) (g := none) (tI 4) false [cB ((Int.tmod (w6 ((w6 (y3 + 1)) + 1)) 3) == 0)] 0 0 (y1.toNat) 8 2 8 ((y2.set (y1.toNat) (⟨((Int.tmod y3 3) == 0),v8.Cost,v8.Has,v8.Heard⟩ : Pt)).set (y1.toNat) (⟨v9.Up,(w6 (y3 + 1)),v9.Has,v9.Heard⟩ : Pt)) Pt.row v11 (⟨v11.Up,v11.Cost,((Int.tmod (w6 ((w6 (y3 + 1)) + 1)) 3) == 0),v11.Heard⟩ : Pt) kr kr kr kr kr kr kr kr (idx_get ev11).2 kr kr kr kr ?_
  refine lD 35 0 kr ?_
  refine tG 3 35 0 kr kr ?_
  refine rU 3 kr ?_
  obtain ⟨v12,ev12,H⟩ := bind_some H
  refine lO 52 0 37 38 40 none ⟨(.slot 0),[],0,true,8,((((y2.set (y1.toNat) (⟨((Int.tmod y3 3) == 0),v8.Cost,v8.Has,v8.Heard⟩ : Pt)).set (y1.toNat) (⟨v9.Up,(w6 (y3 + 1)),v9.Has,v9.Heard⟩ : Pt)).set (y1.toNat) (⟨v11.Up,v11.Cost,((Int.tmod (w6 ((w6 (y3 + 1)) + 1)) 3) == 0),v11.Heard⟩ : Pt)).map Pt.row)⟩ y1 (y1.toNat) (Pt.row v12) _ kr kr kr kr rfl kr (idx_isE ev12) rfl rfl ?_
  refine lU 2 kr ?_
  refine lW (t := 3) (ty := 0) (ad := (.tmp 42)) (x := (.tmp 39)) (g := none) (tI 3) false [cI (w6 ((w6 ((w6 (y3 + 1)) + 1)) + 1))] 0 0 (y1.toNat) 8 3 8 (((y2.set (y1.toNat) (⟨((Int.tmod y3 3) == 0),v8.Cost,v8.Has,v8.Heard⟩ : Pt)).set (y1.toNat) (⟨v9.Up,(w6 (y3 + 1)),v9.Has,v9.Heard⟩ : Pt)).set (y1.toNat) (⟨v11.Up,v11.Cost,((Int.tmod (w6 ((w6 (y3 + 1)) + 1)) 3) == 0),v11.Heard⟩ : Pt)) Pt.row v12 (⟨v12.Up,v12.Cost,v12.Has,(⟨(w6 ((w6 ((w6 (y3 + 1)) + 1)) + 1)),v12.Heard.Cost,v12.Heard.Hops,v12.Heard.Bridge,v12.Heard.Port⟩ : Vec)⟩ : Pt) kr kr kr kr kr kr kr kr (idx_get ev12).2 kr kr kr kr ?_
  refine lD 35 0 kr ?_
  refine tG 3 35 0 kr kr ?_
  refine rU 3 kr ?_
  obtain ⟨v13,ev13,H⟩ := bind_some H
  refine lO 52 0 45 46 48 none ⟨(.slot 0),[],0,true,8,(((((y2.set (y1.toNat) (⟨((Int.tmod y3 3) == 0),v8.Cost,v8.Has,v8.Heard⟩ : Pt)).set (y1.toNat) (⟨v9.Up,(w6 (y3 + 1)),v9.Has,v9.Heard⟩ : Pt)).set (y1.toNat) (⟨v11.Up,v11.Cost,((Int.tmod (w6 ((w6 (y3 + 1)) + 1)) 3) == 0),v11.Heard⟩ : Pt)).set (y1.toNat) (⟨v12.Up,v12.Cost,v12.Has,(⟨(w6 ((w6 ((w6 (y3 + 1)) + 1)) + 1)),v12.Heard.Cost,v12.Heard.Hops,v12.Heard.Bridge,v12.Heard.Port⟩ : Vec)⟩ : Pt)).map Pt.row)⟩ y1 (y1.toNat) (Pt.row v13) _ kr kr kr kr rfl kr (idx_isE ev13) rfl rfl ?_
  refine lU 2 kr ?_
  refine lW (t := 3) (ty := 0) (ad := (.tmp 50)) (x := (.tmp 47)) (g := none) (tI 3) false [cI (w6 ((w6 ((w6 ((w6 (y3 + 1)) + 1)) + 1)) + 1))] 0 0 (y1.toNat) 8 4 8 ((((y2.set (y1.toNat) (⟨((Int.tmod y3 3) == 0),v8.Cost,v8.Has,v8.Heard⟩ : Pt)).set (y1.toNat) (⟨v9.Up,(w6 (y3 + 1)),v9.Has,v9.Heard⟩ : Pt)).set (y1.toNat) (⟨v11.Up,v11.Cost,((Int.tmod (w6 ((w6 (y3 + 1)) + 1)) 3) == 0),v11.Heard⟩ : Pt)).set (y1.toNat) (⟨v12.Up,v12.Cost,v12.Has,(⟨(w6 ((w6 ((w6 (y3 + 1)) + 1)) + 1)),v12.Heard.Cost,v12.Heard.Hops,v12.Heard.Bridge,v12.Heard.Port⟩ : Vec)⟩ : Pt)) Pt.row v13 (⟨v13.Up,v13.Cost,v13.Has,(⟨v13.Heard.Root,(w6 ((w6 ((w6 ((w6 (y3 + 1)) + 1)) + 1)) + 1)),v13.Heard.Hops,v13.Heard.Bridge,v13.Heard.Port⟩ : Vec)⟩ : Pt) kr kr kr kr kr kr kr kr (idx_get ev13).2 kr kr kr kr ?_
  refine lD 35 0 kr ?_
  refine tG 3 35 0 kr kr ?_
  refine rU 3 kr ?_
  obtain ⟨v14,ev14,H⟩ := bind_some H
  refine lO 52 0 53 54 56 none ⟨(.slot 0),[],0,true,8,((((((y2.set (y1.toNat) (⟨((Int.tmod y3 3) == 0),v8.Cost,v8.Has,v8.Heard⟩ : Pt)).set (y1.toNat) (⟨v9.Up,(w6 (y3 + 1)),v9.Has,v9.Heard⟩ : Pt)).set (y1.toNat) (⟨v11.Up,v11.Cost,((Int.tmod (w6 ((w6 (y3 + 1)) + 1)) 3) == 0),v11.Heard⟩ : Pt)).set (y1.toNat) (⟨v12.Up,v12.Cost,v12.Has,(⟨(w6 ((w6 ((w6 (y3 + 1)) + 1)) + 1)),v12.Heard.Cost,v12.Heard.Hops,v12.Heard.Bridge,v12.Heard.Port⟩ : Vec)⟩ : Pt)).set (y1.toNat) (⟨v13.Up,v13.Cost,v13.Has,(⟨v13.Heard.Root,(w6 ((w6 ((w6 ((w6 (y3 + 1)) + 1)) + 1)) + 1)),v13.Heard.Hops,v13.Heard.Bridge,v13.Heard.Port⟩ : Vec)⟩ : Pt)).map Pt.row)⟩ y1 (y1.toNat) (Pt.row v14) _ kr kr kr kr rfl kr (idx_isE ev14) rfl rfl ?_
  refine lU 2 kr ?_
  refine lW (t := 3) (ty := 0) (ad := (.tmp 58)) (x := (.tmp 55)) (g := none) (tI 3) false [cI (w6 ((w6 ((w6 ((w6 ((w6 (y3 + 1)) + 1)) + 1)) + 1)) + 1))] 0 0 (y1.toNat) 8 5 8 (((((y2.set (y1.toNat) (⟨((Int.tmod y3 3) == 0),v8.Cost,v8.Has,v8.Heard⟩ : Pt)).set (y1.toNat) (⟨v9.Up,(w6 (y3 + 1)),v9.Has,v9.Heard⟩ : Pt)).set (y1.toNat) (⟨v11.Up,v11.Cost,((Int.tmod (w6 ((w6 (y3 + 1)) + 1)) 3) == 0),v11.Heard⟩ : Pt)).set (y1.toNat) (⟨v12.Up,v12.Cost,v12.Has,(⟨(w6 ((w6 ((w6 (y3 + 1)) + 1)) + 1)),v12.Heard.Cost,v12.Heard.Hops,v12.Heard.Bridge,v12.Heard.Port⟩ : Vec)⟩ : Pt)).set (y1.toNat) (⟨v13.Up,v13.Cost,v13.Has,(⟨v13.Heard.Root,(w6 ((w6 ((w6 ((w6 (y3 + 1)) + 1)) + 1)) + 1)),v13.Heard.Hops,v13.Heard.Bridge,v13.Heard.Port⟩ : Vec)⟩ : Pt)) Pt.row v14 (⟨v14.Up,v14.Cost,v14.Has,(⟨v14.Heard.Root,v14.Heard.Cost,(w6 ((w6 ((w6 ((w6 ((w6 (y3 + 1)) + 1)) + 1)) + 1)) + 1)),v14.Heard.Bridge,v14.Heard.Port⟩ : Vec)⟩ : Pt) kr kr kr kr kr kr kr kr (idx_get ev14).2 kr kr kr kr ?_
  refine lD 35 0 kr ?_
  refine tG 3 35 0 kr kr ?_
  refine rU 3 kr ?_
  obtain ⟨v15,ev15,H⟩ := bind_some H
  refine lO 52 0 61 62 64 none ⟨(.slot 0),[],0,true,8,(((((((y2.set (y1.toNat) (⟨((Int.tmod y3 3) == 0),v8.Cost,v8.Has,v8.Heard⟩ : Pt)).set (y1.toNat) (⟨v9.Up,(w6 (y3 + 1)),v9.Has,v9.Heard⟩ : Pt)).set (y1.toNat) (⟨v11.Up,v11.Cost,((Int.tmod (w6 ((w6 (y3 + 1)) + 1)) 3) == 0),v11.Heard⟩ : Pt)).set (y1.toNat) (⟨v12.Up,v12.Cost,v12.Has,(⟨(w6 ((w6 ((w6 (y3 + 1)) + 1)) + 1)),v12.Heard.Cost,v12.Heard.Hops,v12.Heard.Bridge,v12.Heard.Port⟩ : Vec)⟩ : Pt)).set (y1.toNat) (⟨v13.Up,v13.Cost,v13.Has,(⟨v13.Heard.Root,(w6 ((w6 ((w6 ((w6 (y3 + 1)) + 1)) + 1)) + 1)),v13.Heard.Hops,v13.Heard.Bridge,v13.Heard.Port⟩ : Vec)⟩ : Pt)).set (y1.toNat) (⟨v14.Up,v14.Cost,v14.Has,(⟨v14.Heard.Root,v14.Heard.Cost,(w6 ((w6 ((w6 ((w6 ((w6 (y3 + 1)) + 1)) + 1)) + 1)) + 1)),v14.Heard.Bridge,v14.Heard.Port⟩ : Vec)⟩ : Pt)).map Pt.row)⟩ y1 (y1.toNat) (Pt.row v15) _ kr kr kr kr rfl kr (idx_isE ev15) rfl rfl ?_
  refine lU 2 kr ?_
  refine lW (t := 3) (ty := 0) (ad := (.tmp 66)) (x := (.tmp 63)) (g := none) (tI 3) false [cI (w6 ((w6 ((w6 ((w6 ((w6 ((w6 (y3 + 1)) + 1)) + 1)) + 1)) + 1)) + 1))] 0 0 (y1.toNat) 8 6 8 ((((((y2.set (y1.toNat) (⟨((Int.tmod y3 3) == 0),v8.Cost,v8.Has,v8.Heard⟩ : Pt)).set (y1.toNat) (⟨v9.Up,(w6 (y3 + 1)),v9.Has,v9.Heard⟩ : Pt)).set (y1.toNat) (⟨v11.Up,v11.Cost,((Int.tmod (w6 ((w6 (y3 + 1)) + 1)) 3) == 0),v11.Heard⟩ : Pt)).set (y1.toNat) (⟨v12.Up,v12.Cost,v12.Has,(⟨(w6 ((w6 ((w6 (y3 + 1)) + 1)) + 1)),v12.Heard.Cost,v12.Heard.Hops,v12.Heard.Bridge,v12.Heard.Port⟩ : Vec)⟩ : Pt)).set (y1.toNat) (⟨v13.Up,v13.Cost,v13.Has,(⟨v13.Heard.Root,(w6 ((w6 ((w6 ((w6 (y3 + 1)) + 1)) + 1)) + 1)),v13.Heard.Hops,v13.Heard.Bridge,v13.Heard.Port⟩ : Vec)⟩ : Pt)).set (y1.toNat) (⟨v14.Up,v14.Cost,v14.Has,(⟨v14.Heard.Root,v14.Heard.Cost,(w6 ((w6 ((w6 ((w6 ((w6 (y3 + 1)) + 1)) + 1)) + 1)) + 1)),v14.Heard.Bridge,v14.Heard.Port⟩ : Vec)⟩ : Pt)) Pt.row v15 (⟨v15.Up,v15.Cost,v15.Has,(⟨v15.Heard.Root,v15.Heard.Cost,v15.Heard.Hops,(w6 ((w6 ((w6 ((w6 ((w6 ((w6 (y3 + 1)) + 1)) + 1)) + 1)) + 1)) + 1)),v15.Heard.Port⟩ : Vec)⟩ : Pt) kr kr kr kr kr kr kr kr (idx_get ev15).2 kr kr kr kr ?_
  refine lD 35 0 kr ?_
  refine tG 3 35 0 kr kr ?_
  refine rU 3 kr ?_
  obtain ⟨v16,ev16,H⟩ := bind_some H
  refine lO 52 0 69 70 72 none ⟨(.slot 0),[],0,true,8,((((((((y2.set (y1.toNat) (⟨((Int.tmod y3 3) == 0),v8.Cost,v8.Has,v8.Heard⟩ : Pt)).set (y1.toNat) (⟨v9.Up,(w6 (y3 + 1)),v9.Has,v9.Heard⟩ : Pt)).set (y1.toNat) (⟨v11.Up,v11.Cost,((Int.tmod (w6 ((w6 (y3 + 1)) + 1)) 3) == 0),v11.Heard⟩ : Pt)).set (y1.toNat) (⟨v12.Up,v12.Cost,v12.Has,(⟨(w6 ((w6 ((w6 (y3 + 1)) + 1)) + 1)),v12.Heard.Cost,v12.Heard.Hops,v12.Heard.Bridge,v12.Heard.Port⟩ : Vec)⟩ : Pt)).set (y1.toNat) (⟨v13.Up,v13.Cost,v13.Has,(⟨v13.Heard.Root,(w6 ((w6 ((w6 ((w6 (y3 + 1)) + 1)) + 1)) + 1)),v13.Heard.Hops,v13.Heard.Bridge,v13.Heard.Port⟩ : Vec)⟩ : Pt)).set (y1.toNat) (⟨v14.Up,v14.Cost,v14.Has,(⟨v14.Heard.Root,v14.Heard.Cost,(w6 ((w6 ((w6 ((w6 ((w6 (y3 + 1)) + 1)) + 1)) + 1)) + 1)),v14.Heard.Bridge,v14.Heard.Port⟩ : Vec)⟩ : Pt)).set (y1.toNat) (⟨v15.Up,v15.Cost,v15.Has,(⟨v15.Heard.Root,v15.Heard.Cost,v15.Heard.Hops,(w6 ((w6 ((w6 ((w6 ((w6 ((w6 (y3 + 1)) + 1)) + 1)) + 1)) + 1)) + 1)),v15.Heard.Port⟩ : Vec)⟩ : Pt)).map Pt.row)⟩ y1 (y1.toNat) (Pt.row v16) _ kr kr kr kr rfl kr (idx_isE ev16) rfl rfl ?_
  refine lU 2 kr ?_
  refine lW (t := 3) (ty := 0) (ad := (.tmp 74)) (x := (.tmp 71)) (g := none) (tI 3) false [cI (w6 ((w6 ((w6 ((w6 ((w6 ((w6 ((w6 (y3 + 1)) + 1)) + 1)) + 1)) + 1)) + 1)) + 1))] 0 0 (y1.toNat) 8 7 8 (((((((y2.set (y1.toNat) (⟨((Int.tmod y3 3) == 0),v8.Cost,v8.Has,v8.Heard⟩ : Pt)).set (y1.toNat) (⟨v9.Up,(w6 (y3 + 1)),v9.Has,v9.Heard⟩ : Pt)).set (y1.toNat) (⟨v11.Up,v11.Cost,((Int.tmod (w6 ((w6 (y3 + 1)) + 1)) 3) == 0),v11.Heard⟩ : Pt)).set (y1.toNat) (⟨v12.Up,v12.Cost,v12.Has,(⟨(w6 ((w6 ((w6 (y3 + 1)) + 1)) + 1)),v12.Heard.Cost,v12.Heard.Hops,v12.Heard.Bridge,v12.Heard.Port⟩ : Vec)⟩ : Pt)).set (y1.toNat) (⟨v13.Up,v13.Cost,v13.Has,(⟨v13.Heard.Root,(w6 ((w6 ((w6 ((w6 (y3 + 1)) + 1)) + 1)) + 1)),v13.Heard.Hops,v13.Heard.Bridge,v13.Heard.Port⟩ : Vec)⟩ : Pt)).set (y1.toNat) (⟨v14.Up,v14.Cost,v14.Has,(⟨v14.Heard.Root,v14.Heard.Cost,(w6 ((w6 ((w6 ((w6 ((w6 (y3 + 1)) + 1)) + 1)) + 1)) + 1)),v14.Heard.Bridge,v14.Heard.Port⟩ : Vec)⟩ : Pt)).set (y1.toNat) (⟨v15.Up,v15.Cost,v15.Has,(⟨v15.Heard.Root,v15.Heard.Cost,v15.Heard.Hops,(w6 ((w6 ((w6 ((w6 ((w6 ((w6 (y3 + 1)) + 1)) + 1)) + 1)) + 1)) + 1)),v15.Heard.Port⟩ : Vec)⟩ : Pt)) Pt.row v16 (⟨v16.Up,v16.Cost,v16.Has,(⟨v16.Heard.Root,v16.Heard.Cost,v16.Heard.Hops,v16.Heard.Bridge,(w6 ((w6 ((w6 ((w6 ((w6 ((w6 ((w6 (y3 + 1)) + 1)) + 1)) + 1)) + 1)) + 1)) + 1))⟩ : Vec)⟩ : Pt) kr kr kr kr kr kr kr kr (idx_get ev16).2 kr kr kr kr ?_
  refine lD 35 0 kr ?_
  refine tE 3 35 0 kr kr ?_
  refine tE 3 35 0 kr kr ?_
  exact jn (mo6,((w6 (y1 + 1)),((((((((y2.set (y1.toNat) (⟨((Int.tmod y3 3) == 0),v8.Cost,v8.Has,v8.Heard⟩ : Pt)).set (y1.toNat) (⟨v9.Up,(w6 (y3 + 1)),v9.Has,v9.Heard⟩ : Pt)).set (y1.toNat) (⟨v11.Up,v11.Cost,((Int.tmod (w6 ((w6 (y3 + 1)) + 1)) 3) == 0),v11.Heard⟩ : Pt)).set (y1.toNat) (⟨v12.Up,v12.Cost,v12.Has,(⟨(w6 ((w6 ((w6 (y3 + 1)) + 1)) + 1)),v12.Heard.Cost,v12.Heard.Hops,v12.Heard.Bridge,v12.Heard.Port⟩ : Vec)⟩ : Pt)).set (y1.toNat) (⟨v13.Up,v13.Cost,v13.Has,(⟨v13.Heard.Root,(w6 ((w6 ((w6 ((w6 (y3 + 1)) + 1)) + 1)) + 1)),v13.Heard.Hops,v13.Heard.Bridge,v13.Heard.Port⟩ : Vec)⟩ : Pt)).set (y1.toNat) (⟨v14.Up,v14.Cost,v14.Has,(⟨v14.Heard.Root,v14.Heard.Cost,(w6 ((w6 ((w6 ((w6 ((w6 (y3 + 1)) + 1)) + 1)) + 1)) + 1)),v14.Heard.Bridge,v14.Heard.Port⟩ : Vec)⟩ : Pt)).set (y1.toNat) (⟨v15.Up,v15.Cost,v15.Has,(⟨v15.Heard.Root,v15.Heard.Cost,v15.Heard.Hops,(w6 ((w6 ((w6 ((w6 ((w6 ((w6 (y3 + 1)) + 1)) + 1)) + 1)) + 1)) + 1)),v15.Heard.Port⟩ : Vec)⟩ : Pt)).set (y1.toNat) (⟨v16.Up,v16.Cost,v16.Has,(⟨v16.Heard.Root,v16.Heard.Cost,v16.Heard.Hops,v16.Heard.Bridge,(w6 ((w6 ((w6 ((w6 ((w6 ((w6 ((w6 (y3 + 1)) + 1)) + 1)) + 1)) + 1)) + 1)) + 1))⟩ : Vec)⟩ : Pt)),(w6 ((w6 ((w6 ((w6 ((w6 ((w6 ((w6 ((w6 (y3 + 1)) + 1)) + 1)) + 1)) + 1)) + 1)) + 1)) + 1)))) H (sM mo6 [5,0,1] [] kr)
 rintro ⟨y4,y5⟩ H
 have H : (laws_markPtS_J1 n y4 y5) = some r := H
 unfold laws_markPtS_J1 at H
 refine tG 2 17 0 kr kr ?_
 refine te ?_
 obtain rfl := si H
 exact Fin.ofY _ [(false,[cI y5])] [false] _ [[cL 8 y4 Pt.row]] _ [] kr rfl rfl rfl kr kr kr kr rfl rfl rfl
def laws_markFentS_J1 (n : Nat) (y4 : (List Fent)) (y5 : Int) : Option (Int × (List Fent)) :=
  (some (y5,y4))
def laws_markFentS_L2 (n : Nat) : Nat → Int → (List Fent) → Int → Option (((List Fent) × Int) ⊕ (Int × (List Fent)))
  | 0,_,_,_ => none
  | mo6 + 1,y1,y2,y3 => (bif (decide (y1 < (y2.length : Int))) then ((idx y2 y1).bind fun v7 => ((idx (y2.set (y1.toNat) (⟨y3,v7.Mac,v7.Port,v7.Age,v7.Static⟩ : Fent)) y1).bind fun v8 => ((idx ((y2.set (y1.toNat) (⟨y3,v7.Mac,v7.Port,v7.Age,v7.Static⟩ : Fent)).set (y1.toNat) (⟨v8.Tag,(IntKind.wrap .i64 (y3 + 1)),v8.Port,v8.Age,v8.Static⟩ : Fent)) y1).bind fun v9 => ((idx (((y2.set (y1.toNat) (⟨y3,v7.Mac,v7.Port,v7.Age,v7.Static⟩ : Fent)).set (y1.toNat) (⟨v8.Tag,(IntKind.wrap .i64 (y3 + 1)),v8.Port,v8.Age,v8.Static⟩ : Fent)).set (y1.toNat) (⟨v9.Tag,v9.Mac,(IntKind.wrap .i64 ((IntKind.wrap .i64 (y3 + 1)) + 1)),v9.Age,v9.Static⟩ : Fent)) y1).bind fun v10 => (bif (decide ((3 : Int) ≠ 0)) then ((idx ((((y2.set (y1.toNat) (⟨y3,v7.Mac,v7.Port,v7.Age,v7.Static⟩ : Fent)).set (y1.toNat) (⟨v8.Tag,(IntKind.wrap .i64 (y3 + 1)),v8.Port,v8.Age,v8.Static⟩ : Fent)).set (y1.toNat) (⟨v9.Tag,v9.Mac,(IntKind.wrap .i64 ((IntKind.wrap .i64 (y3 + 1)) + 1)),v9.Age,v9.Static⟩ : Fent)).set (y1.toNat) (⟨v10.Tag,v10.Mac,v10.Port,(IntKind.wrap .i64 ((IntKind.wrap .i64 ((IntKind.wrap .i64 (y3 + 1)) + 1)) + 1)),v10.Static⟩ : Fent)) y1).bind fun v12 => (laws_markFentS_L2 n mo6 (IntKind.wrap .i64 (y1 + 1)) (((((y2.set (y1.toNat) (⟨y3,v7.Mac,v7.Port,v7.Age,v7.Static⟩ : Fent)).set (y1.toNat) (⟨v8.Tag,(IntKind.wrap .i64 (y3 + 1)),v8.Port,v8.Age,v8.Static⟩ : Fent)).set (y1.toNat) (⟨v9.Tag,v9.Mac,(IntKind.wrap .i64 ((IntKind.wrap .i64 (y3 + 1)) + 1)),v9.Age,v9.Static⟩ : Fent)).set (y1.toNat) (⟨v10.Tag,v10.Mac,v10.Port,(IntKind.wrap .i64 ((IntKind.wrap .i64 ((IntKind.wrap .i64 (y3 + 1)) + 1)) + 1)),v10.Static⟩ : Fent)).set (y1.toNat) (⟨v12.Tag,v12.Mac,v12.Port,v12.Age,((Int.tmod (IntKind.wrap .i64 ((IntKind.wrap .i64 ((IntKind.wrap .i64 ((IntKind.wrap .i64 (y3 + 1)) + 1)) + 1)) + 1)) 3) == 0)⟩ : Fent)) (IntKind.wrap .i64 ((IntKind.wrap .i64 ((IntKind.wrap .i64 ((IntKind.wrap .i64 ((IntKind.wrap .i64 (y3 + 1)) + 1)) + 1)) + 1)) + 1)))) else none))))) else (some (Sum.inl (y2,y3))))
def laws_markFentSF (n : Nat) (x0 : (List Fent)) (x1 : Int) : Option (Int × (List Fent)) :=
  ((laws_markFentS_L2 n n 0 x0 x1).bind fun o => match o with | .inl (y4,y5) => (laws_markFentS_J1 n y4 y5) | .inr r => some r)
noncomputable abbrev G123 (k : Nat) := Rg Tryz.f123 k
theorem laws_markFentS (n : Nat) (x0 : (List Fent)) (x1 : Int) (r : Int × (List Fent)) (H : laws_markFentSF n x0 x1 = some r) : LCall Tryz.prog 123 [.io false [.sl true 5 (x0.map Fent.row)],.val false [.lit (.int .i64 x1)]] [.val false [.lit (.int .i64 r.1)]] [(0,[.sl true 5 (r.2.map Fent.row)])] := by
 refine LCall.of_body tOk Tryz.func123 rfl (c := (.seq (G123 0) (.seq (.seq (G123 1) (.block 0 (.loop (.seq (.seq (G123 2) (.cond (.tmp 9) .skip (.exit 0))) (.seq (.block 1 (.seq (G123 4) (.seq (G123 5) (.seq (G123 6) (.seq (G123 7) (.seq (G123 8) (.seq (G123 9) (.seq (G123 10) (.seq (G123 11) (.seq (G123 12) (G123 13))))))))))) (G123 3)))))) (.seq (G123 14) .ret)))) kr (Nat.le_of_ble_eq_true kr) 1 (rs := [.tmp 4]) rfl [0] (by decide) [(false,[.lit (.int .i64 r.1)])] [[.sl true 5 (r.2.map Fent.row)]] [] fun cx => ?_
 show Tr _ _ _ ⟨50,1,[sC 0 (cL 5 x0 Fent.row),sI 1 x1],[]⟩ _
 unfold laws_markFentSF at H
 refine tG 1 3 0 kr kr ?_
 refine tS ?_
 refine tG 1 35 0 kr kr ?_
 obtain ⟨o6,eo6,Ho6⟩ := bind_some H
 clear H
 refine Tr.mid (ι := (List Fent) × Int) (fun v => ⟨50,1,[sC 0 (cL 5 v.1 Fent.row),sI 1 v.2],[]⟩) (fun v => laws_markFentS_J1 n v.1 v.2 = some r) ?_ ?_
 ·refine tB ?_
  refine Tr.loop (ι := Nat × (Int × (List Fent) × Int)) (fun v => ⟨50,1,[sI 5 v.2.1,sC 0 (cL 5 v.2.2.1 Fent.row),sI 1 v.2.2.2],[]⟩) (fun v => laws_markFentS_L2 n v.1 v.2.1 v.2.2.1 v.2.2.2 = some o6) (fun v => v.1) (n,(0,x0,x1)) eo6 (St.sub_of [5,0,1] [] kr) ?_
  rintro ⟨mo6,y1,y2,y3⟩ H
  have H : laws_markFentS_L2 n mo6 y1 y2 y3 = some o6 := H
  obtain _ | mo6 := mo6
  ·cases (show (none : Option _) = some o6 from H)
  rw [laws_markFentS_L2] at H
  refine tS ?_
  refine rU 2 kr ?_
  refine lL 53 3 184 7 8 none ⟨(.slot 0),[],0,true,5,(y2.map Fent.row)⟩ (y2).length _ kr kr kr kr kr (map_len _ _) rfl ?_
  refine uD 1 547 0 kr kr ?_
  obtain ⟨h1,H⟩ | ⟨h1,H⟩ := bC H
  ·refine tF h1 kr ?_
   refine Tr.exit ?_
   refine And.intro (fun _ => ?_) (fun h => absurd rfl h)
   obtain rfl := si H
   have H := Ho6
   dsimp only at H
   exact jn (y2,y3) H (sB_ [0,1] [] kr)
  refine tT h1 kr ?_
  refine tK ?_
  refine tS ?_
  refine tB ?_
  refine rU 3 kr ?_
  obtain ⟨v7,ev7,H⟩ := bind_some H
  refine lO 53 0 12 13 15 none ⟨(.slot 0),[],0,true,5,(y2.map Fent.row)⟩ y1 (y1.toNat) (Fent.row v7) _ kr kr kr kr rfl kr (idx_isE ev7) rfl rfl ?_
  refine lU 1 kr ?_
  refine lW (t := 3) (ty := 0) (ad := (.tmp 16)) (x := (.tmp 14)) (g := none) (tI 3) false [cI y3] 0 0 (y1.toNat) 5 0 5 y2 Fent.row v7 (⟨y3,v7.Mac,v7.Port,v7.Age,v7.Static⟩ : Fent) kr kr kr kr kr kr kr kr (idx_get ev7).2 kr kr kr kr ?_
  refine lD 35 0 kr ?_
  refine tG 3 35 0 kr kr ?_
  refine rU 3 kr ?_
  obtain ⟨v8,ev8,H⟩ := bind_some H
  refine lO 53 0 19 20 22 none ⟨(.slot 0),[],0,true,5,((y2.set (y1.toNat) (⟨y3,v7.Mac,v7.Port,v7.Age,v7.Static⟩ : Fent)).map Fent.row)⟩ y1 (y1.toNat) (Fent.row v8) _ kr kr kr kr rfl kr (idx_isE ev8) rfl rfl ?_
  refine lU 1 kr ?_
  refine lW (t := 3) (ty := 0) (ad := (.tmp 23)) (x := (.tmp 21)) (g := none) (tI 3) false [cI (w6 (y3 + 1))] 0 0 (y1.toNat) 5 1 5 (y2.set (y1.toNat) (⟨y3,v7.Mac,v7.Port,v7.Age,v7.Static⟩ : Fent)) Fent.row v8 (⟨v8.Tag,(w6 (y3 + 1)),v8.Port,v8.Age,v8.Static⟩ : Fent) kr kr kr kr kr kr kr kr (idx_get ev8).2 kr kr kr kr ?_
  refine lD 35 0 kr ?_
  refine tG 3 35 0 kr kr ?_
  refine rU 3 kr ?_
  obtain ⟨v9,ev9,H⟩ := bind_some H
  refine lO 53 0 26 27 29 none ⟨(.slot 0),[],0,true,5,(((y2.set (y1.toNat) (⟨y3,v7.Mac,v7.Port,v7.Age,v7.Static⟩ : Fent)).set (y1.toNat) (⟨v8.Tag,(w6 (y3 + 1)),v8.Port,v8.Age,v8.Static⟩ : Fent)).map Fent.row)⟩ y1 (y1.toNat) (Fent.row v9) _ kr kr kr kr rfl kr (idx_isE ev9) rfl rfl ?_
  refine lU 1 kr ?_
  refine lW (t := 3) (ty := 0) (ad := (.tmp 30)) (x := (.tmp 28)) (g := none) (tI 3) false [cI (w6 ((w6 (y3 + 1)) + 1))] 0 0 (y1.toNat) 5 2 5 ((y2.set (y1.toNat) (⟨y3,v7.Mac,v7.Port,v7.Age,v7.Static⟩ : Fent)).set (y1.toNat) (⟨v8.Tag,(w6 (y3 + 1)),v8.Port,v8.Age,v8.Static⟩ : Fent)) Fent.row v9 (⟨v9.Tag,v9.Mac,(w6 ((w6 (y3 + 1)) + 1)),v9.Age,v9.Static⟩ : Fent) kr kr kr kr kr kr kr kr (idx_get ev9).2 kr kr kr kr ?_
  refine lD 35 0 kr ?_
  refine tG 3 35 0 kr kr ?_
  refine rU 3 kr ?_
  obtain ⟨v10,ev10,H⟩ := bind_some H
  refine lO 53 0 33 34 36 none ⟨(.slot 0),[],0,true,5,((((y2.set (y1.toNat) (⟨y3,v7.Mac,v7.Port,v7.Age,v7.Static⟩ : Fent)).set (y1.toNat) (⟨v8.Tag,(w6 (y3 + 1)),v8.Port,v8.Age,v8.Static⟩ : Fent)).set (y1.toNat) (⟨v9.Tag,v9.Mac,(w6 ((w6 (y3 + 1)) + 1)),v9.Age,v9.Static⟩ : Fent)).map Fent.row)⟩ y1 (y1.toNat) (Fent.row v10) _ kr kr kr kr rfl kr (idx_isE ev10) rfl rfl ?_
  refine lU 1 kr ?_
  refine lW (t := 3) (ty := 0) (ad := (.tmp 37)) (x := (.tmp 35)) (g := none) (tI 3) false [cI (w6 ((w6 ((w6 (y3 + 1)) + 1)) + 1))] 0 0 (y1.toNat) 5 3 5 (((y2.set (y1.toNat) (⟨y3,v7.Mac,v7.Port,v7.Age,v7.Static⟩ : Fent)).set (y1.toNat) (⟨v8.Tag,(w6 (y3 + 1)),v8.Port,v8.Age,v8.Static⟩ : Fent)).set (y1.toNat) (⟨v9.Tag,v9.Mac,(w6 ((w6 (y3 + 1)) + 1)),v9.Age,v9.Static⟩ : Fent)) Fent.row v10 (⟨v10.Tag,v10.Mac,v10.Port,(w6 ((w6 ((w6 (y3 + 1)) + 1)) + 1)),v10.Static⟩ : Fent) kr kr kr kr kr kr kr kr (idx_get ev10).2 kr kr kr kr ?_
  refine lD 35 0 kr ?_
  refine tG 3 35 0 kr kr ?_
  refine rU 3 kr ?_
  obtain ⟨hg11,H⟩ := guard_some H
  refine LAt.binC tOk (op := .rem) (t := 3) (ty := 3) (ty' := 3) (x := (.tmp 42)) (y := (.const (.int .i64 3))) (d := 43) (g := none) (.int .i64 (w6 ((w6 ((w6 ((w6 (y3 + 1)) + 1)) + 1)) + 1))) (.int .i64 3) (.int .i64 (Int.tmod (w6 ((w6 ((w6 ((w6 (y3 + 1)) + 1)) + 1)) + 1)) 3)) _ kr kr kr kr kr (φ := (IntKind.i64 = IntKind.i64 ∧ (3 : Int) ≠ 0)) kr (⟨rfl,of_decide_eq_true hg11⟩) rfl ?_
  refine lU 1 kr ?_
  obtain ⟨v12,ev12,H⟩ := bind_some H
  refine lO 53 0 40 41 45 none ⟨(.slot 0),[],0,true,5,(((((y2.set (y1.toNat) (⟨y3,v7.Mac,v7.Port,v7.Age,v7.Static⟩ : Fent)).set (y1.toNat) (⟨v8.Tag,(w6 (y3 + 1)),v8.Port,v8.Age,v8.Static⟩ : Fent)).set (y1.toNat) (⟨v9.Tag,v9.Mac,(w6 ((w6 (y3 + 1)) + 1)),v9.Age,v9.Static⟩ : Fent)).set (y1.toNat) (⟨v10.Tag,v10.Mac,v10.Port,(w6 ((w6 ((w6 (y3 + 1)) + 1)) + 1)),v10.Static⟩ : Fent)).map Fent.row)⟩ y1 (y1.toNat) (Fent.row v12) _ kr kr kr kr rfl kr (idx_isE ev12) rfl rfl ?_
  refine lU 1 kr ?_
  refine lW (t := 4) (ty := 0) (ad := (.tmp 46)) (x := (.tmp 44)) (g := none) (tI 4) false [cB ((Int.tmod (w6 ((w6 ((w6 ((w6 (y3 + 1)) + 1)) + 1)) + 1)) 3) == 0)] 0 0 (y1.toNat) 5 4 5 ((((y2.set (y1.toNat) (⟨y3,v7.Mac,v7.Port,v7.Age,v7.Static⟩ : Fent)).set (y1.toNat) (⟨v8.Tag,(w6 (y3 + 1)),v8.Port,v8.Age,v8.Static⟩ : Fent)).set (y1.toNat) (⟨v9.Tag,v9.Mac,(w6 ((w6 (y3 + 1)) + 1)),v9.Age,v9.Static⟩ : Fent)).set (y1.toNat) (⟨v10.Tag,v10.Mac,v10.Port,(w6 ((w6 ((w6 (y3 + 1)) + 1)) + 1)),v10.Static⟩ : Fent)) Fent.row v12 (⟨v12.Tag,v12.Mac,v12.Port,v12.Age,((Int.tmod (w6 ((w6 ((w6 ((w6 (y3 + 1)) + 1)) + 1)) + 1)) 3) == 0)⟩ : Fent) kr kr kr kr kr kr kr kr (idx_get ev12).2 kr kr kr kr ?_
  refine lD 35 0 kr ?_
  refine tE 3 35 0 kr kr ?_
  refine tE 3 35 0 kr kr ?_
  exact jn (mo6,((w6 (y1 + 1)),(((((y2.set (y1.toNat) (⟨y3,v7.Mac,v7.Port,v7.Age,v7.Static⟩ : Fent)).set (y1.toNat) (⟨v8.Tag,(w6 (y3 + 1)),v8.Port,v8.Age,v8.Static⟩ : Fent)).set (y1.toNat) (⟨v9.Tag,v9.Mac,(w6 ((w6 (y3 + 1)) + 1)),v9.Age,v9.Static⟩ : Fent)).set (y1.toNat) (⟨v10.Tag,v10.Mac,v10.Port,(w6 ((w6 ((w6 (y3 + 1)) + 1)) + 1)),v10.Static⟩ : Fent)).set (y1.toNat) (⟨v12.Tag,v12.Mac,v12.Port,v12.Age,((Int.tmod (w6 ((w6 ((w6 ((w6 (y3 + 1)) + 1)) + 1)) + 1)) 3) == 0)⟩ : Fent)),(w6 ((w6 ((w6 ((w6 ((w6 (y3 + 1)) + 1)) + 1)) + 1)) + 1)))) H (sM mo6 [5,0,1] [] kr)
 rintro ⟨y4,y5⟩ H
 have H : (laws_markFentS_J1 n y4 y5) = some r := H
 unfold laws_markFentS_J1 at H
 refine tG 2 17 0 kr kr ?_
 refine te ?_
 obtain rfl := si H
 exact Fin.ofY _ [(false,[cI y5])] [false] _ [[cL 5 y4 Fent.row]] _ [] kr rfl rfl rfl kr kr kr kr rfl rfl rfl
def laws_markVrowS_J1 (n : Nat) (y4 : (List Vrow)) (y5 : Int) : Option (Int × (List Vrow)) :=
  (some (y5,y4))
def laws_markVrowS_L2 (n : Nat) : Nat → Int → (List Vrow) → Int → Option (((List Vrow) × Int) ⊕ (Int × (List Vrow)))
  | 0,_,_,_ => none
  | mo6 + 1,y1,y2,y3 => (bif (decide (y1 < (y2.length : Int))) then ((idx y2 y1).bind fun v7 => ((idx (y2.set (y1.toNat) (⟨y3,v7.Members,v7.Bare⟩ : Vrow)) y1).bind fun v8 => ((idx ((y2.set (y1.toNat) (⟨y3,v7.Members,v7.Bare⟩ : Vrow)).set (y1.toNat) (⟨v8.Id,(IntKind.wrap .i64 (y3 + 1)),v8.Bare⟩ : Vrow)) y1).bind fun v9 => (laws_markVrowS_L2 n mo6 (IntKind.wrap .i64 (y1 + 1)) (((y2.set (y1.toNat) (⟨y3,v7.Members,v7.Bare⟩ : Vrow)).set (y1.toNat) (⟨v8.Id,(IntKind.wrap .i64 (y3 + 1)),v8.Bare⟩ : Vrow)).set (y1.toNat) (⟨v9.Id,v9.Members,(IntKind.wrap .i64 ((IntKind.wrap .i64 (y3 + 1)) + 1))⟩ : Vrow)) (IntKind.wrap .i64 ((IntKind.wrap .i64 ((IntKind.wrap .i64 (y3 + 1)) + 1)) + 1)))))) else (some (Sum.inl (y2,y3))))
def laws_markVrowSF (n : Nat) (x0 : (List Vrow)) (x1 : Int) : Option (Int × (List Vrow)) :=
  ((laws_markVrowS_L2 n n 0 x0 x1).bind fun o => match o with | .inl (y4,y5) => (laws_markVrowS_J1 n y4 y5) | .inr r => some r)
noncomputable abbrev G186 (k : Nat) := Rg Tryz.f186 k
theorem laws_markVrowS (n : Nat) (x0 : (List Vrow)) (x1 : Int) (r : Int × (List Vrow)) (H : laws_markVrowSF n x0 x1 = some r) : LCall Tryz.prog 186 [.io false [.sl true 3 (x0.map Vrow.row)],.val false [.lit (.int .i64 x1)]] [.val false [.lit (.int .i64 r.1)]] [(0,[.sl true 3 (r.2.map Vrow.row)])] := by
 refine LCall.of_body tOk Tryz.func186 rfl (c := (.seq (G186 0) (.seq (.seq (G186 1) (.block 0 (.loop (.seq (.seq (G186 2) (.cond (.tmp 9) .skip (.exit 0))) (.seq (.block 1 (.seq (G186 4) (.seq (G186 5) (.seq (G186 6) (.seq (G186 7) (.seq (G186 8) (G186 9))))))) (G186 3)))))) (.seq (G186 10) .ret)))) kr (Nat.le_of_ble_eq_true kr) 1 (rs := [.tmp 4]) rfl [0] (by decide) [(false,[.lit (.int .i64 r.1)])] [[.sl true 3 (r.2.map Vrow.row)]] [] fun cx => ?_
 show Tr _ _ _ ⟨34,1,[sC 0 (cL 3 x0 Vrow.row),sI 1 x1],[]⟩ _
 unfold laws_markVrowSF at H
 refine tG 1 3 0 kr kr ?_
 refine tS ?_
 refine tG 1 35 0 kr kr ?_
 obtain ⟨o6,eo6,Ho6⟩ := bind_some H
 clear H
 refine Tr.mid (ι := (List Vrow) × Int) (fun v => ⟨34,1,[sC 0 (cL 3 v.1 Vrow.row),sI 1 v.2],[]⟩) (fun v => laws_markVrowS_J1 n v.1 v.2 = some r) ?_ ?_
 ·refine tB ?_
  refine Tr.loop (ι := Nat × (Int × (List Vrow) × Int)) (fun v => ⟨34,1,[sI 5 v.2.1,sC 0 (cL 3 v.2.2.1 Vrow.row),sI 1 v.2.2.2],[]⟩) (fun v => laws_markVrowS_L2 n v.1 v.2.1 v.2.2.1 v.2.2.2 = some o6) (fun v => v.1) (n,(0,x0,x1)) eo6 (St.sub_of [5,0,1] [] kr) ?_
  rintro ⟨mo6,y1,y2,y3⟩ H
  have H : laws_markVrowS_L2 n mo6 y1 y2 y3 = some o6 := H
  obtain _ | mo6 := mo6
  ·cases (show (none : Option _) = some o6 from H)
  rw [laws_markVrowS_L2] at H
  refine tS ?_
  refine rU 2 kr ?_
  refine lL 54 3 190 7 8 none ⟨(.slot 0),[],0,true,3,(y2.map Vrow.row)⟩ (y2).length _ kr kr kr kr kr (map_len _ _) rfl ?_
  refine uD 1 547 0 kr kr ?_
  obtain ⟨h1,H⟩ | ⟨h1,H⟩ := bC H
  ·refine tF h1 kr ?_
   refine Tr.exit ?_
   refine And.intro (fun _ => ?_) (fun h => absurd rfl h)
   obtain rfl := si H
   have H := Ho6
   dsimp only at H
   exact jn (y2,y3) H (sB_ [0,1] [] kr)
  refine tT h1 kr ?_
  refine tK ?_
  refine tS ?_
  refine tB ?_
  refine rU 3 kr ?_
  obtain ⟨v7,ev7,H⟩ := bind_some H
  refine lO 54 0 12 13 15 none ⟨(.slot 0),[],0,true,3,(y2.map Vrow.row)⟩ y1 (y1.toNat) (Vrow.row v7) _ kr kr kr kr rfl kr (idx_isE ev7) rfl rfl ?_
  refine lU 1 kr ?_
  refine lW (t := 3) (ty := 0) (ad := (.tmp 16)) (x := (.tmp 14)) (g := none) (tI 3) false [cI y3] 0 0 (y1.toNat) 3 0 3 y2 Vrow.row v7 (⟨y3,v7.Members,v7.Bare⟩ : Vrow) kr kr kr kr kr kr kr kr (idx_get ev7).2 kr kr kr kr ?_
  refine lD 35 0 kr ?_
  refine tG 3 35 0 kr kr ?_
  refine rU 3 kr ?_
  obtain ⟨v8,ev8,H⟩ := bind_some H
  refine lO 54 0 19 20 22 none ⟨(.slot 0),[],0,true,3,((y2.set (y1.toNat) (⟨y3,v7.Members,v7.Bare⟩ : Vrow)).map Vrow.row)⟩ y1 (y1.toNat) (Vrow.row v8) _ kr kr kr kr rfl kr (idx_isE ev8) rfl rfl ?_
  refine lU 1 kr ?_
  refine lW (t := 3) (ty := 0) (ad := (.tmp 23)) (x := (.tmp 21)) (g := none) (tI 3) false [cI (w6 (y3 + 1))] 0 0 (y1.toNat) 3 1 3 (y2.set (y1.toNat) (⟨y3,v7.Members,v7.Bare⟩ : Vrow)) Vrow.row v8 (⟨v8.Id,(w6 (y3 + 1)),v8.Bare⟩ : Vrow) kr kr kr kr kr kr kr kr (idx_get ev8).2 kr kr kr kr ?_
  refine lD 35 0 kr ?_
  refine tG 3 35 0 kr kr ?_
  refine rU 3 kr ?_
  obtain ⟨v9,ev9,H⟩ := bind_some H
  refine lO 54 0 26 27 29 none ⟨(.slot 0),[],0,true,3,(((y2.set (y1.toNat) (⟨y3,v7.Members,v7.Bare⟩ : Vrow)).set (y1.toNat) (⟨v8.Id,(w6 (y3 + 1)),v8.Bare⟩ : Vrow)).map Vrow.row)⟩ y1 (y1.toNat) (Vrow.row v9) _ kr kr kr kr rfl kr (idx_isE ev9) rfl rfl ?_
  refine lU 1 kr ?_
  refine lW (t := 3) (ty := 0) (ad := (.tmp 30)) (x := (.tmp 28)) (g := none) (tI 3) false [cI (w6 ((w6 (y3 + 1)) + 1))] 0 0 (y1.toNat) 3 2 3 ((y2.set (y1.toNat) (⟨y3,v7.Members,v7.Bare⟩ : Vrow)).set (y1.toNat) (⟨v8.Id,(w6 (y3 + 1)),v8.Bare⟩ : Vrow)) Vrow.row v9 (⟨v9.Id,v9.Members,(w6 ((w6 (y3 + 1)) + 1))⟩ : Vrow) kr kr kr kr kr kr kr kr (idx_get ev9).2 kr kr kr kr ?_
  refine lD 35 0 kr ?_
  refine tE 3 35 0 kr kr ?_
  refine tE 3 35 0 kr kr ?_
  exact jn (mo6,((w6 (y1 + 1)),(((y2.set (y1.toNat) (⟨y3,v7.Members,v7.Bare⟩ : Vrow)).set (y1.toNat) (⟨v8.Id,(w6 (y3 + 1)),v8.Bare⟩ : Vrow)).set (y1.toNat) (⟨v9.Id,v9.Members,(w6 ((w6 (y3 + 1)) + 1))⟩ : Vrow)),(w6 ((w6 ((w6 (y3 + 1)) + 1)) + 1)))) H (sM mo6 [5,0,1] [] kr)
 rintro ⟨y4,y5⟩ H
 have H : (laws_markVrowS_J1 n y4 y5) = some r := H
 unfold laws_markVrowS_J1 at H
 refine tG 2 17 0 kr kr ?_
 refine te ?_
 obtain rfl := si H
 exact Fin.ofY _ [(false,[cI y5])] [false] _ [[cL 3 y4 Vrow.row]] _ [] kr rfl rfl rfl kr kr kr kr rfl rfl rfl
def laws_markIntS_J1 (n : Nat) (y4 : (List Int)) (y5 : Int) : Option (Int × (List Int)) :=
  (some (y5,y4))
def laws_markIntS_L2 (n : Nat) : Nat → Int → (List Int) → Int → Option (((List Int) × Int) ⊕ (Int × (List Int)))
  | 0,_,_,_ => none
  | mo6 + 1,y1,y2,y3 => (bif (decide (y1 < (y2.length : Int))) then ((idx y2 y1).bind fun v7 => (laws_markIntS_L2 n mo6 (IntKind.wrap .i64 (y1 + 1)) (y2.set (y1.toNat) y3) (IntKind.wrap .i64 (y3 + 1)))) else (some (Sum.inl (y2,y3))))
def laws_markIntSF (n : Nat) (x0 : (List Int)) (x1 : Int) : Option (Int × (List Int)) :=
  ((laws_markIntS_L2 n n 0 x0 x1).bind fun o => match o with | .inl (y4,y5) => (laws_markIntS_J1 n y4 y5) | .inr r => some r)
noncomputable abbrev G20 (k : Nat) := Rg Tryz.f20 k
theorem laws_markIntS (n : Nat) (x0 : (List Int)) (x1 : Int) (r : Int × (List Int)) (H : laws_markIntSF n x0 x1 = some r) : LCall Tryz.prog 20 [.io false [.sl true 1 (x0.map intRow)],.val false [.lit (.int .i64 x1)]] [.val false [.lit (.int .i64 r.1)]] [(0,[.sl true 1 (r.2.map intRow)])] := by
 refine LCall.of_body tOk Tryz.func20 rfl (c := (.seq (G20 0) (.seq (.seq (G20 1) (.block 0 (.loop (.seq (.seq (G20 2) (.cond (.tmp 9) .skip (.exit 0))) (.seq (.block 1 (.seq (G20 4) (G20 5))) (G20 3)))))) (.seq (G20 6) .ret)))) kr (Nat.le_of_ble_eq_true kr) 1 (rs := [.tmp 4]) rfl [0] (by decide) [(false,[.lit (.int .i64 r.1)])] [[.sl true 1 (r.2.map intRow)]] [] fun cx => ?_
 show Tr _ _ _ ⟨19,1,[sC 0 (cL 1 x0 intRow),sI 1 x1],[]⟩ _
 unfold laws_markIntSF at H
 refine tG 1 3 0 kr kr ?_
 refine tS ?_
 refine tG 1 35 0 kr kr ?_
 obtain ⟨o6,eo6,Ho6⟩ := bind_some H
 clear H
 refine Tr.mid (ι := (List Int) × Int) (fun v => ⟨19,1,[sC 0 (cL 1 v.1 intRow),sI 1 v.2],[]⟩) (fun v => laws_markIntS_J1 n v.1 v.2 = some r) ?_ ?_
 ·refine tB ?_
  refine Tr.loop (ι := Nat × (Int × (List Int) × Int)) (fun v => ⟨19,1,[sI 5 v.2.1,sC 0 (cL 1 v.2.2.1 intRow),sI 1 v.2.2.2],[]⟩) (fun v => laws_markIntS_L2 n v.1 v.2.1 v.2.2.1 v.2.2.2 = some o6) (fun v => v.1) (n,(0,x0,x1)) eo6 (St.sub_of [5,0,1] [] kr) ?_
  rintro ⟨mo6,y1,y2,y3⟩ H
  have H : laws_markIntS_L2 n mo6 y1 y2 y3 = some o6 := H
  obtain _ | mo6 := mo6
  ·cases (show (none : Option _) = some o6 from H)
  rw [laws_markIntS_L2] at H
  refine tS ?_
  refine rU 2 kr ?_
  refine lL 22 3 3 7 8 none ⟨(.slot 0),[],0,true,1,(y2.map intRow)⟩ (y2).length _ kr kr kr kr kr (map_len _ _) rfl ?_
  refine uD 1 547 0 kr kr ?_
  obtain ⟨h1,H⟩ | ⟨h1,H⟩ := bC H
  ·refine tF h1 kr ?_
   refine Tr.exit ?_
   refine And.intro (fun _ => ?_) (fun h => absurd rfl h)
   obtain rfl := si H
   have H := Ho6
   dsimp only at H
   exact jn (y2,y3) H (sB_ [0,1] [] kr)
  refine tT h1 kr ?_
  refine tK ?_
  refine tS ?_
  refine tB ?_
  refine rU 3 kr ?_
  obtain ⟨v7,ev7,H⟩ := bind_some H
  refine lO 22 0 12 13 15 none ⟨(.slot 0),[],0,true,1,(y2.map intRow)⟩ y1 (y1.toNat) (intRow v7) _ kr kr kr kr rfl kr (idx_isE ev7) rfl rfl ?_
  refine lW (t := 3) (ty := 0) (ad := (.tmp 15)) (x := (.tmp 14)) (g := none) (tI 3) false [cI y3] 0 0 (y1.toNat) 1 0 1 y2 intRow v7 y3 kr kr kr kr kr kr kr kr (idx_get ev7).2 kr kr kr kr ?_
  refine lD 35 0 kr ?_
  refine tE 3 35 0 kr kr ?_
  refine tE 3 35 0 kr kr ?_
  exact jn (mo6,((w6 (y1 + 1)),(y2.set (y1.toNat) y3),(w6 (y3 + 1)))) H (sM mo6 [5,0,1] [] kr)
 rintro ⟨y4,y5⟩ H
 have H : (laws_markIntS_J1 n y4 y5) = some r := H
 unfold laws_markIntS_J1 at H
 refine tG 2 17 0 kr kr ?_
 refine te ?_
 obtain rfl := si H
 exact Fin.ofY _ [(false,[cI y5])] [false] _ [[cL 1 y4 intRow]] _ [] kr rfl rfl rfl kr kr kr kr rfl rfl rfl
end Go.Proofs.YtibocmoaaahjfaaGreat.Tw
