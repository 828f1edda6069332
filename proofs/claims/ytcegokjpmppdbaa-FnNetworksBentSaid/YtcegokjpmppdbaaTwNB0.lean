import Derived.Test.YtcegokjpmppdbaaProg
import Derived.Test.YtcegokjpmppdbaaTlRule
import Derived.Test.YtcegokjpmppdbaaTlU10
import Derived.WalkKit
set_option linter.unusedVariables false
set_option linter.unusedSimpArgs false
set_option maxRecDepth 100000
set_option maxHeartbeats 1000000
namespace Go.Proofs.Ytcegokjpmppdbaa.Tw
open Go Go.TL Go.Proofs
def tab : List (Nat × TI) := [(2,⟨.int .i64,1,8,[.lit (.int .i64 0)]⟩),
  (3,⟨.int .i64,1,8,[.lit (.int .i64 0)]⟩),
  (4,⟨.bool,1,1,[.lit (.bool false)]⟩),
  (5,⟨.int .u8,1,1,[.lit (.int .u8 0)]⟩),
  (6,⟨.int .u8,1,1,[.lit (.int .u8 0)]⟩),
  (22,⟨.sl 5,1,24,[.sl true 1 []]⟩),
  (26,⟨.sl 124,1,24,[.sl true 3 []]⟩),
  (27,⟨.sl 3,1,24,[.sl true 1 []]⟩),
  (29,⟨.st [(0,1,26),(1,1,27)],2,48,[.sl true 3 [],.sl true 1 []]⟩),
  (112,⟨.int .u64,1,8,[.lit (.int .u64 0)]⟩),
  (124,⟨.st [(0,1,3),(1,1,3),(2,1,3)],3,24,[.lit (.int .i64 0),.lit (.int .i64 0),.lit (.int .i64 0)]⟩),
  (142,⟨.st [(0,1,22),(1,1,3),(2,1,3)],3,40,[.sl true 1 [],.lit (.int .i64 0),.lit (.int .i64 0)]⟩)]
def tI (t : Nat) : TI := (lk tab t).getD ⟨.bool,1,1,[]⟩
theorem mixed : Try.prog.follows .mixedOrders = true := by kernel_rfl
theorem tOk : TOk Try.prog (lk tab) := tok_of (by kernel_rfl)
structure Src where
  b : (List Int)
  i : Int
  h : Int
def Src.row (v : Src) : List CV := [.sl true 1 (v.b.map byteRow),.lit (.int .i64 v.i),.lit (.int .i64 v.h)]
def Src.wf (v : Src) : Prop := listWf byteWf v.b ∧ intWf v.i ∧ intWf v.h ∧ True
theorem Src.enc : Enc Src [.sl 1 [.int .u8],.int .i64,.int .i64] Src.row Src.wf := fun cs h => by
  obtain ⟨c0,r0,rfl,k0,h⟩ := fitR_cons h
  obtain ⟨c1,r1,rfl,k1,h⟩ := fitR_cons h
  obtain ⟨c2,r2,rfl,k2,h⟩ := fitR_cons h
  obtain rfl := fitR_nil h
  obtain ⟨x0,rfl,w0⟩ := Enc.sl encByte k0
  obtain ⟨x1,rfl,w1⟩ := fitC_int k1
  obtain ⟨x2,rfl,w2⟩ := fitC_int k2
  exact ⟨⟨x0,x1,x2⟩,rfl,⟨w0,w1,w2,trivial⟩⟩
theorem Src.row_mine (v : Src) : CV.mineRow (Src.row v) := mine_cons (mine_sl (mine_map byteRow_mine _)) (mine_cons mine_lit (mine_cons mine_lit (mine_nil)))
structure Vrow where
  Id : Int
  Members : Int
  Bare : Int
def Vrow.row (v : Vrow) : List CV := [.lit (.int .i64 v.Id),.lit (.int .i64 v.Members),.lit (.int .i64 v.Bare)]
def Vrow.wf (v : Vrow) : Prop := intWf v.Id ∧ intWf v.Members ∧ intWf v.Bare ∧ True
theorem Vrow.enc : Enc Vrow [.int .i64,.int .i64,.int .i64] Vrow.row Vrow.wf := fun cs h => by
  obtain ⟨c0,r0,rfl,k0,h⟩ := fitR_cons h
  obtain ⟨c1,r1,rfl,k1,h⟩ := fitR_cons h
  obtain ⟨c2,r2,rfl,k2,h⟩ := fitR_cons h
  obtain rfl := fitR_nil h
  obtain ⟨x0,rfl,w0⟩ := fitC_int k0
  obtain ⟨x1,rfl,w1⟩ := fitC_int k1
  obtain ⟨x2,rfl,w2⟩ := fitC_int k2
  exact ⟨⟨x0,x1,x2⟩,rfl,⟨w0,w1,w2,trivial⟩⟩
theorem Vrow.row_mine (v : Vrow) : CV.mineRow (Vrow.row v) := mine_cons mine_lit (mine_cons mine_lit (mine_cons mine_lit (mine_nil)))
structure Vtab where
  Rows : (List Vrow)
  Pvid : (List Int)
def Vtab.row (v : Vtab) : List CV := [.sl true 3 (v.Rows.map Vrow.row),.sl true 1 (v.Pvid.map intRow)]
def Vtab.wf (v : Vtab) : Prop := listWf Vrow.wf v.Rows ∧ listWf intWf v.Pvid ∧ True
theorem Vtab.enc : Enc Vtab [.sl 3 [.int .i64,.int .i64,.int .i64],.sl 1 [.int .i64]] Vtab.row Vtab.wf := fun cs h => by
  obtain ⟨c0,r0,rfl,k0,h⟩ := fitR_cons h
  obtain ⟨c1,r1,rfl,k1,h⟩ := fitR_cons h
  obtain rfl := fitR_nil h
  obtain ⟨x0,rfl,w0⟩ := Enc.sl Vrow.enc k0
  obtain ⟨x1,rfl,w1⟩ := Enc.sl encInt k1
  exact ⟨⟨x0,x1⟩,rfl,⟨w0,w1,trivial⟩⟩
theorem Vtab.row_mine (v : Vtab) : CV.mineRow (Vtab.row v) := mine_cons (mine_sl (mine_map Vrow.row_mine _)) (mine_cons (mine_sl (mine_map intRow_mine _)) (mine_nil))
def laws_bigF (n : Nat) (x0 : (List Int)) : Option (Bool) :=
  (some (decide ((x0.length : Int) > 1048576)))
noncomputable abbrev G9 (k : Nat) := Rg Try.f9 k
theorem laws_big (n : Nat) (x0 : (List Int)) (r : Bool) (H : laws_bigF n x0 = some r) : LCall Try.prog 9 [.val false [.sl false 1 (CV.frzEs (x0.map byteRow))]] [.val false [.lit (.bool r)]] [] := by
 refine LCall.of_body tOk Try.func9 rfl (c := (.seq (G9 0) (.seq (G9 1) .ret))) kr (Nat.le_of_ble_eq_true kr) 0 (rs := [.tmp 2]) rfl [] .nil [(false,[.lit (.bool r)])] [] [] fun cx => ?_
 show Tr _ _ _ ⟨6,0,[sC 0 (cF 1 x0 byteRow)],[]⟩ _
 unfold laws_bigF at H
 refine tG tOk 1 1 0 kr kr ?_
 refine rU tOk 1 kr ?_
 refine lL tOk 22 3 5 3 4 none ⟨(.slot 3),[],0,false,1,(CV.frzEs (x0.map byteRow))⟩ (x0).length _ kr kr kr kr kr (frz_len _ _) rfl ?_
 refine uD tOk 2 4 0 kr kr ?_
 exact te (by obtain rfl := si H; exact fO [(false,[cB (decide ((x0.length : Int) > 1048576))])] kr rfl rfl)
def spec_l1New_J1 (n : Nat) (x0 : (List Int)) (y3 : Int) : Option (Src) :=
  (some (⟨x0,0,y3⟩ : Src))
def spec_l1New_L2 (n : Nat) : Nat → (List Int) → Int → Int → Option ((Int) ⊕ (Src))
  | 0,_,_,_ => none
  | mo4 + 1,x0,y1,y2 => (bif (decide (y1 < (x0.length : Int))) then (bif (decide (y1 < 4000)) then ((idx x0 y1).bind fun v5 => (spec_l1New_L2 n mo4 x0 (IntKind.wrap .i64 (y1 + 1)) (IntKind.wrap .i64 (BitVec.ofInt (IntKind.bits .i64) (IntKind.wrap .i64 ((IntKind.wrap .i64 ((IntKind.wrap .i64 (y2 * 137)) + (IntKind.wrap .i64 v5))) + 11)) &&& BitVec.ofInt (IntKind.bits .i64) 1073741823).toNat))) else (some (Sum.inl y2))) else (some (Sum.inl y2)))
def spec_l1NewF (n : Nat) (x0 : (List Int)) : Option (Src) :=
  ((spec_l1New_L2 n n x0 0 (IntKind.wrap .i64 (762762 + (x0.length : Int)))).bind fun o => match o with | .inl y3 => (spec_l1New_J1 n x0 y3) | .inr r => some r)
noncomputable abbrev G52 (k : Nat) := Rg Try.f52 k
theorem spec_l1New (n : Nat) (x0 : (List Int)) (r : Src) (H : spec_l1NewF n x0 = some r) : LCall Try.prog 52 [.val false [.sl false 1 (CV.frzEs (x0.map byteRow))]] [.ptr (CV.frzRow (Src.row r))] [] := by
 refine LCall.of_body_ptr tOk Try.func52 rfl (c := (.seq (G52 0) (.seq (G52 1) (.seq (.seq (G52 2) (.block 0 (.loop (.seq (.seq (G52 3) (.cond (.tmp 15) .skip (.exit 0))) (.seq (.block 1 (G52 5)) (G52 4)))))) (.seq (G52 6) .ret))))) kr (Nat.le_of_ble_eq_true kr) 2 31 rfl (CV.frzRow (Src.row r)) fun cx => ?_
 show Tr _ _ _ ⟨32,0,[sC 0 (cF 1 x0 byteRow)],[]⟩ _
 unfold spec_l1NewF at H
 refine tG tOk 1 1 0 kr kr ?_
 refine rU tOk 1 kr ?_
 refine lL tOk 22 3 5 5 6 none ⟨(.slot 5),[],0,false,1,(CV.frzEs (x0.map byteRow))⟩ (x0).length _ kr kr kr kr kr (frz_len _ _) rfl ?_
 refine uD tOk 2 9 0 kr kr ?_
 refine tS ?_
 refine tG tOk 1 25 0 kr kr ?_
 obtain ⟨o4,eo4,Ho4⟩ := bind_some H
 clear H
 refine Tr.mid (ι := Int) (fun v => ⟨32,0,[sI 3 v,sC 0 (cF 1 x0 byteRow)],[]⟩) (fun v => spec_l1New_J1 n x0 v = some r) ?_ ?_
 ·refine tB ?_
  refine Tr.loop (ι := Nat × (Int × Int)) (fun v => ⟨32,0,[sI 4 v.2.1,sI 3 v.2.2,sC 0 (cF 1 x0 byteRow)],[]⟩) (fun v => spec_l1New_L2 n v.1 x0 v.2.1 v.2.2 = some o4) (fun v => v.1) (n,(0,(IntKind.wrap .i64 (762762 + (x0.length : Int))))) eo4 (St.sub_of [4,3,0] [] kr) ?_
  rintro ⟨mo4,y1,y2⟩ H
  have H : spec_l1New_L2 n mo4 x0 y1 y2 = some o4 := H
  obtain _ | mo4 := mo4
  ·cases (show (none : Option _) = some o4 from H)
  rw [spec_l1New_L2] at H
  refine tS ?_
  refine rU tOk 2 kr ?_
  refine lL tOk 22 3 5 9 10 none ⟨(.slot 9),[],0,false,1,(CV.frzEs (x0.map byteRow))⟩ (x0).length _ kr kr kr kr kr (frz_len _ _) rfl ?_
  refine lU tOk 2 kr ?_
  refine lT ⟨32,0,[sB 12 (decide (y1 < (x0.length : Int))),sB 11 (decide (y1 < (x0.length : Int))),sI 10 (x0.length : Int),sC 9 (cF 1 x0 byteRow),sI 8 y1,sI 4 y1,sI 3 y2,sC 0 (cF 1 x0 byteRow)],[]⟩ kr ?_
  cases h1 : (decide (y1 < (x0.length : Int)))
  ·have H := bifF h1 H
   refine uD tOk 3 32793 0 kr kr ?_
   refine tf kr ?_
   refine Tr.exit ?_
   refine And.intro (fun _ => ?_) (fun h => absurd rfl h)
   obtain rfl := si H
   have H := Ho4
   dsimp only at H
   exact jn y2 H (sB_ [3,0] [] kr)
  have H := bifT h1 H
  refine uD tOk 3 32793 0 kr kr ?_
  obtain ⟨h2,H⟩ | ⟨h2,H⟩ := bC H
  ·refine tF h2 kr ?_
   refine Tr.exit ?_
   refine And.intro (fun _ => ?_) (fun h => absurd rfl h)
   obtain rfl := si H
   have H := Ho4
   dsimp only at H
   exact jn y2 H (sB_ [3,0] [] kr)
  refine tT h2 kr ?_
  refine tK ?_
  refine tS ?_
  refine tB ?_
  refine Tr.at ?_
  refine lU tOk 4 kr ?_
  obtain ⟨v5,ev5,H⟩ := bind_some H
  refine lI tOk 22 0 20 21 22 none ⟨(.slot 20),[],0,false,1,(CV.frzEs (x0.map byteRow))⟩ y1 [.lit (.int .u8 v5)] _ kr kr kr kr rfl (idx_isF ev5) rfl ?_
  refine uD tOk 6 25 0 kr kr ?_
  refine tE tOk 3 25 0 kr kr ?_
  exact jn (mo4,((IntKind.wrap .i64 (y1 + 1)),(IntKind.wrap .i64 (BitVec.ofInt (IntKind.bits .i64) (IntKind.wrap .i64 ((IntKind.wrap .i64 ((IntKind.wrap .i64 (y2 * 137)) + (IntKind.wrap .i64 v5))) + 11)) &&& BitVec.ofInt (IntKind.bits .i64) 1073741823).toNat))) H (sM mo4 [4,3,0] [] kr)
 rintro y3 H
 have H : (spec_l1New_J1 n x0 y3) = some r := H
 unfold spec_l1New_J1 at H
 refine tG tOk 5 4 2147483648 kr kr ?_
 refine te ?_
 obtain rfl := si H
 exact And.intro kr kr
def spec_l1ByteF (n : Nat) (x0 : Src) : Option (Int × Src) :=
  (bif (decide ((0 : Int) ≤ 33)) then (bif (decide ((0 : Int) ≤ 47)) then (bif (decide (x0.i < (x0.b.length : Int))) then ((idx x0.b x0.i).bind fun v3 => (some ((IntKind.wrap .i64 (BitVec.ofInt (IntKind.bits .i64) (IntKind.wrap .i64 ((IntKind.wrap .i64 (BitVec.ofInt (IntKind.bits .i64) (IntKind.wrap .i64 (BitVec.ofInt (IntKind.bits .i64) (Int.fdiv (IntKind.wrap .i64 ((IntKind.wrap .i64 (x0.h * 6364136223846793005)) + 1442695040888963407)) (2 ^ min ((33 : Int)).toNat (IntKind.bits .i64))) ^^^ BitVec.ofInt (IntKind.bits .i64) (Int.fdiv (IntKind.wrap .i64 ((IntKind.wrap .i64 (x0.h * 6364136223846793005)) + 1442695040888963407)) (2 ^ min ((47 : Int)).toNat (IntKind.bits .i64)))).toNat) &&& BitVec.ofInt (IntKind.bits .i64) 255).toNat) + (IntKind.wrap .i64 v3))) &&& BitVec.ofInt (IntKind.bits .i64) 255).toNat),(⟨x0.b,(IntKind.wrap .i64 (x0.i + 1)),(IntKind.wrap .i64 ((IntKind.wrap .i64 (x0.h * 6364136223846793005)) + 1442695040888963407))⟩ : Src)))) else (some ((IntKind.wrap .i64 (BitVec.ofInt (IntKind.bits .i64) (IntKind.wrap .i64 (BitVec.ofInt (IntKind.bits .i64) (Int.fdiv (IntKind.wrap .i64 ((IntKind.wrap .i64 (x0.h * 6364136223846793005)) + 1442695040888963407)) (2 ^ min ((33 : Int)).toNat (IntKind.bits .i64))) ^^^ BitVec.ofInt (IntKind.bits .i64) (Int.fdiv (IntKind.wrap .i64 ((IntKind.wrap .i64 (x0.h * 6364136223846793005)) + 1442695040888963407)) (2 ^ min ((47 : Int)).toNat (IntKind.bits .i64)))).toNat) &&& BitVec.ofInt (IntKind.bits .i64) 255).toNat),(⟨x0.b,x0.i,(IntKind.wrap .i64 ((IntKind.wrap .i64 (x0.h * 6364136223846793005)) + 1442695040888963407))⟩ : Src)))) else none) else none)
def T124x2 : Tab := ⟨13,[0,1,2,4,8,0,32,64,128,256,528,1024,4095],[0,1,2,4,8,0,32,64,128,256,528,1024,2048],[0,1,3,7,15,0,32,96,224,480,1023,2047,4095]⟩
noncomputable abbrev G124 (k : Nat) := Rg Try.f124 k
noncomputable abbrev D124 (k : Nat) := Rd Try.f124 k
theorem K124x2 : tabOk (rg Try.f124 2) T124x2 = true := kr
def T124x3 : Tab := ⟨10,[0,1,2,4,0,16,32,64,128,264],[0,1,2,4,0,16,32,64,128,264],[0,1,3,7,0,16,48,112,240,511]⟩
theorem K124x3 : tabOk (rg Try.f124 3) T124x3 = true := kr
def T124x4 : Tab := ⟨15,[0,0,2,4,8,0,32,64,128,272,512,1024,2049,4096,16383],[0,0,2,4,8,0,32,64,128,272,512,1024,2049,4096,8193],[0,0,2,6,14,0,32,96,224,510,1022,2046,4095,8191,16383]⟩
theorem K124x4 : tabOk (rg Try.f124 4) T124x4 = true := kr
theorem spec_l1Byte_D1 (n : Nat) (x0 : Src) (hg1 : (decide ((0 : Int) ≤ 33)) = true) (hg2 : (decide ((0 : Int) ≤ 47)) = true) (cx : Cx) : AT Try.prog cx (rg Try.f124 2) [] 13 [] ⟨58,1,[sA 0 0 3 0],[(0,[cF 1 x0.b byteRow,cI x0.i,cI (IntKind.wrap .i64 ((IntKind.wrap .i64 (x0.h * 6364136223846793005)) + 1442695040888963407))])]⟩ (fun s => s = ⟨58,1,[sI 3 (IntKind.wrap .i64 (BitVec.ofInt (IntKind.bits .i64) (IntKind.wrap .i64 (BitVec.ofInt (IntKind.bits .i64) (Int.fdiv (IntKind.wrap .i64 ((IntKind.wrap .i64 (x0.h * 6364136223846793005)) + 1442695040888963407)) (2 ^ min ((33 : Int)).toNat (IntKind.bits .i64))) ^^^ BitVec.ofInt (IntKind.bits .i64) (Int.fdiv (IntKind.wrap .i64 ((IntKind.wrap .i64 (x0.h * 6364136223846793005)) + 1442695040888963407)) (2 ^ min ((47 : Int)).toNat (IntKind.bits .i64)))).toNat) &&& BitVec.ofInt (IntKind.bits .i64) 255).toNat),sA 0 0 3 0],[(0,[cF 1 x0.b byteRow,cI x0.i,cI (IntKind.wrap .i64 ((IntKind.wrap .i64 (x0.h * 6364136223846793005)) + 1442695040888963407))])]⟩) := by
 refine mU tOk K124x2 [(0,[]),(1,[]),(2,[]),(3,[4]),(5,[]),(6,[]),(7,[]),(8,[9])] 5 [⟨[9],3,20,21⟩,⟨[4],3,15,16⟩] [8,7,6,5,3,2,1,0] rfl kr (fun cx => ?_)
 refine mB2 tOk K124x2 4 9 kr (And.intro kr ?_) (And.intro kr ?_)
 ·refine LAt.binC tOk (op := .shr) (t := 3) (ty := 112) (ty' := 3) (x := (.tmp 16)) (y := (.const (.int .u64 33))) (d := 17) (g := none) (.int .i64 (IntKind.wrap .i64 ((IntKind.wrap .i64 (x0.h * 0x5851f42d4c957f2d)) + 0x14057b7ef767814f))) (.int .u64 33) (.int .i64 (Int.fdiv (IntKind.wrap .i64 ((IntKind.wrap .i64 (x0.h * 0x5851f42d4c957f2d)) + 0x14057b7ef767814f)) (2 ^ min ((33 : Int)).toNat (IntKind.bits .i64)))) _ kr kr kr kr kr (φ := (0 : Int) ≤ 33) kr (of_decide_eq_true hg1) rfl ?_
  refine lF kr kr kr ?_
  refine mB1 tOk K124x2 9 kr kr ?_
  refine LAt.binC tOk (op := .shr) (t := 3) (ty := 112) (ty' := 3) (x := (.tmp 21)) (y := (.const (.int .u64 47))) (d := 22) (g := none) (.int .i64 (IntKind.wrap .i64 ((IntKind.wrap .i64 (x0.h * 0x5851f42d4c957f2d)) + 0x14057b7ef767814f))) (.int .u64 47) (.int .i64 (Int.fdiv (IntKind.wrap .i64 ((IntKind.wrap .i64 (x0.h * 0x5851f42d4c957f2d)) + 0x14057b7ef767814f)) (2 ^ min ((47 : Int)).toNat (IntKind.bits .i64)))) _ kr kr kr kr kr (φ := (0 : Int) ≤ 47) kr (of_decide_eq_true hg2) rfl ?_
  refine lF kr kr kr ?_
  refine mU tOk K124x2 [(10,[]),(11,[]),(12,[])] 0 [⟨[9],3,20,21⟩,⟨[4],3,15,16⟩] [12,11,10,9,4,8,7,6,5,3,2,1,0] rfl kr (fun cx => ?_)
  exact mD K124x2 [3,0] [0] _ kr kr rfl
 ·refine LAt.binC tOk (op := .shr) (t := 3) (ty := 112) (ty' := 3) (x := (.tmp 21)) (y := (.const (.int .u64 47))) (d := 22) (g := none) (.int .i64 (IntKind.wrap .i64 ((IntKind.wrap .i64 (x0.h * 0x5851f42d4c957f2d)) + 0x14057b7ef767814f))) (.int .u64 47) (.int .i64 (Int.fdiv (IntKind.wrap .i64 ((IntKind.wrap .i64 (x0.h * 0x5851f42d4c957f2d)) + 0x14057b7ef767814f)) (2 ^ min ((47 : Int)).toNat (IntKind.bits .i64)))) _ kr kr kr kr kr (φ := (0 : Int) ≤ 47) kr (of_decide_eq_true hg2) rfl ?_
  refine lF kr kr kr ?_
  refine mB1 tOk K124x2 4 kr kr ?_
  refine LAt.binC tOk (op := .shr) (t := 3) (ty := 112) (ty' := 3) (x := (.tmp 16)) (y := (.const (.int .u64 33))) (d := 17) (g := none) (.int .i64 (IntKind.wrap .i64 ((IntKind.wrap .i64 (x0.h * 0x5851f42d4c957f2d)) + 0x14057b7ef767814f))) (.int .u64 33) (.int .i64 (Int.fdiv (IntKind.wrap .i64 ((IntKind.wrap .i64 (x0.h * 0x5851f42d4c957f2d)) + 0x14057b7ef767814f)) (2 ^ min ((33 : Int)).toNat (IntKind.bits .i64)))) _ kr kr kr kr kr (φ := (0 : Int) ≤ 33) kr (of_decide_eq_true hg1) rfl ?_
  refine lF kr kr kr ?_
  refine mU tOk K124x2 [(10,[]),(11,[]),(12,[])] 0 [⟨[9],3,20,21⟩,⟨[4],3,15,16⟩] [12,11,10,4,9,8,7,6,5,3,2,1,0] rfl kr (fun cx => ?_)
  exact mD K124x2 [3,0] [0] _ kr kr rfl
theorem spec_l1Byte (n : Nat) (x0 : Src) (r : Int × Src) (H : spec_l1ByteF n x0 = some r) : LCall Try.prog 124 [.ptr (CV.frzRow (Src.row x0))] [.val false [.lit (.int .i64 r.1)]] [(0,(CV.frzRow (Src.row r.2)))] := by
 refine LCall.of_body tOk Try.func124 rfl (c := (.seq (G124 0) (.seq (G124 1) (.seq (D124 2) (.seq (.seq (D124 3) (.cond (.tmp 34) (.seq (D124 4) (G124 5)) .skip)) (.seq (G124 6) .ret)))))) kr (Nat.le_of_ble_eq_true kr) 1 (rs := [.tmp 2]) rfl [] .nil [(false,[.lit (.int .i64 r.1)])] [] [(0,(CV.frzRow (Src.row r.2)))] fun cx => ?_
 show Tr _ _ _ ⟨58,1,[sA 0 0 3 0],[(0,(CV.frzRow (Src.row x0)))]⟩ _
 unfold spec_l1ByteF at H
 refine tG tOk 1 1 1 kr kr ?_
 refine tG tOk 10 1 1 kr kr ?_
 obtain ⟨hg1,H⟩ := guard_some H
 obtain ⟨hg2,H⟩ := guard_some H
 refine tO ⟨58,1,[sA 0 0 3 0],[(0,[cF 1 x0.b byteRow,cI x0.i,cI (IntKind.wrap .i64 ((IntKind.wrap .i64 (x0.h * 0x5851f42d4c957f2d)) + 0x14057b7ef767814f))])]⟩ kr ?_
 refine Tr.draws mixed 13 kr ⟨58,1,[sI 3 (IntKind.wrap .i64 (BitVec.ofInt (IntKind.bits .i64) (IntKind.wrap .i64 (BitVec.ofInt (IntKind.bits .i64) (Int.fdiv (IntKind.wrap .i64 ((IntKind.wrap .i64 (x0.h * 0x5851f42d4c957f2d)) + 0x14057b7ef767814f)) (2 ^ min ((33 : Int)).toNat (IntKind.bits .i64))) ^^^ BitVec.ofInt (IntKind.bits .i64) (Int.fdiv (IntKind.wrap .i64 ((IntKind.wrap .i64 (x0.h * 0x5851f42d4c957f2d)) + 0x14057b7ef767814f)) (2 ^ min ((47 : Int)).toNat (IntKind.bits .i64)))).toNat) &&& BitVec.ofInt (IntKind.bits .i64) 255).toNat),sA 0 0 3 0],[(0,[cF 1 x0.b byteRow,cI x0.i,cI (IntKind.wrap .i64 ((IntKind.wrap .i64 (x0.h * 0x5851f42d4c957f2d)) + 0x14057b7ef767814f))])]⟩ (spec_l1Byte_D1 n x0 hg1 hg2) ?_
 refine tS ?_
 refine Tr.draws mixed 10 kr ⟨58,1,[sB 34 (decide (x0.i < (x0.b.length : Int))),sI 3 (IntKind.wrap .i64 (BitVec.ofInt (IntKind.bits .i64) (IntKind.wrap .i64 (BitVec.ofInt (IntKind.bits .i64) (Int.fdiv (IntKind.wrap .i64 ((IntKind.wrap .i64 (x0.h * 0x5851f42d4c957f2d)) + 0x14057b7ef767814f)) (2 ^ min ((33 : Int)).toNat (IntKind.bits .i64))) ^^^ BitVec.ofInt (IntKind.bits .i64) (Int.fdiv (IntKind.wrap .i64 ((IntKind.wrap .i64 (x0.h * 0x5851f42d4c957f2d)) + 0x14057b7ef767814f)) (2 ^ min ((47 : Int)).toNat (IntKind.bits .i64)))).toNat) &&& BitVec.ofInt (IntKind.bits .i64) 255).toNat),sA 0 0 3 0],[(0,[cF 1 x0.b byteRow,cI x0.i,cI (IntKind.wrap .i64 ((IntKind.wrap .i64 (x0.h * 0x5851f42d4c957f2d)) + 0x14057b7ef767814f))])]⟩ (fun cx => ?_) ?_
 ·refine mU tOk K124x3 [(0,[]),(1,[]),(2,[]),(3,[]),(4,[]),(5,[]),(6,[]),(7,[])] 2 [⟨[],22,31,32⟩,⟨[],3,27,28⟩] [7,6,5,4,3,2,1,0] rfl kr (fun cx => ?_)
  refine aL tOk 8 22 3 5 32 33 none ⟨(.box 0),[(0,0)],0,false,1,(CV.frzEs (x0.b.map byteRow))⟩ (x0.b).length _ kr (oM K124x3 kr) (dM K124x3 kr) kr kr kr kr (frz_len _ _) rfl (fun cx => ?_)
  refine mU tOk K124x3 [(9,[])] 0 [⟨[],22,31,32⟩,⟨[],3,27,28⟩] [9,8,7,6,5,4,3,2,1,0] rfl kr (fun cx => ?_)
  exact mD K124x3 [34,3,0] [0] _ kr kr rfl
 refine tO ⟨58,1,[sB 34 (decide (x0.i < (x0.b.length : Int))),sI 3 (IntKind.wrap .i64 (BitVec.ofInt (IntKind.bits .i64) (IntKind.wrap .i64 (BitVec.ofInt (IntKind.bits .i64) (Int.fdiv (IntKind.wrap .i64 ((IntKind.wrap .i64 (x0.h * 0x5851f42d4c957f2d)) + 0x14057b7ef767814f)) (2 ^ min ((33 : Int)).toNat (IntKind.bits .i64))) ^^^ BitVec.ofInt (IntKind.bits .i64) (Int.fdiv (IntKind.wrap .i64 ((IntKind.wrap .i64 (x0.h * 0x5851f42d4c957f2d)) + 0x14057b7ef767814f)) (2 ^ min ((47 : Int)).toNat (IntKind.bits .i64)))).toNat) &&& BitVec.ofInt (IntKind.bits .i64) 255).toNat),sA 0 0 3 0],[(0,[cF 1 x0.b byteRow,cI x0.i,cI (IntKind.wrap .i64 ((IntKind.wrap .i64 (x0.h * 0x5851f42d4c957f2d)) + 0x14057b7ef767814f))])]⟩ kr ?_
 cases h1 : (decide (x0.i < (x0.b.length : Int)))
 ·have H := bifF h1 H
  refine tf kr ?_
  refine tK ?_
  refine tG tOk 2 5 1 kr kr ?_
  refine te ?_
  obtain rfl := si H
  exact Fin.ofY _ [(false,[cI (IntKind.wrap .i64 (BitVec.ofInt (IntKind.bits .i64) (IntKind.wrap .i64 (BitVec.ofInt (IntKind.bits .i64) (Int.fdiv (IntKind.wrap .i64 ((IntKind.wrap .i64 (x0.h * 0x5851f42d4c957f2d)) + 0x14057b7ef767814f)) (2 ^ min ((33 : Int)).toNat (IntKind.bits .i64))) ^^^ BitVec.ofInt (IntKind.bits .i64) (Int.fdiv (IntKind.wrap .i64 ((IntKind.wrap .i64 (x0.h * 0x5851f42d4c957f2d)) + 0x14057b7ef767814f)) (2 ^ min ((47 : Int)).toNat (IntKind.bits .i64)))).toNat) &&& BitVec.ofInt (IntKind.bits .i64) 255).toNat)])] [] _ [] _ [(0,[cF 1 x0.b byteRow,cI x0.i,cI (IntKind.wrap .i64 ((IntKind.wrap .i64 (x0.h * 0x5851f42d4c957f2d)) + 0x14057b7ef767814f))])] kr rfl rfl rfl kr kr kr kr rfl rfl rfl
 have H := bifT h1 H
 refine tt kr ?_
 obtain ⟨v3,ev3,H⟩ := bind_some H
 refine Tr.draws mixed 15 kr ⟨58,1,[sI 3 (IntKind.wrap .i64 (BitVec.ofInt (IntKind.bits .i64) (IntKind.wrap .i64 ((IntKind.wrap .i64 (BitVec.ofInt (IntKind.bits .i64) (IntKind.wrap .i64 (BitVec.ofInt (IntKind.bits .i64) (Int.fdiv (IntKind.wrap .i64 ((IntKind.wrap .i64 (x0.h * 0x5851f42d4c957f2d)) + 0x14057b7ef767814f)) (2 ^ min ((33 : Int)).toNat (IntKind.bits .i64))) ^^^ BitVec.ofInt (IntKind.bits .i64) (Int.fdiv (IntKind.wrap .i64 ((IntKind.wrap .i64 (x0.h * 0x5851f42d4c957f2d)) + 0x14057b7ef767814f)) (2 ^ min ((47 : Int)).toNat (IntKind.bits .i64)))).toNat) &&& BitVec.ofInt (IntKind.bits .i64) 255).toNat) + (IntKind.wrap .i64 v3))) &&& BitVec.ofInt (IntKind.bits .i64) 255).toNat),sA 0 0 3 0],[(0,[cF 1 x0.b byteRow,cI x0.i,cI (IntKind.wrap .i64 ((IntKind.wrap .i64 (x0.h * 0x5851f42d4c957f2d)) + 0x14057b7ef767814f))])]⟩ (fun cx => ?_) ?_
 ·refine mU tOk K124x4 [(0,[]),(1,[]),(2,[]),(3,[]),(4,[]),(5,[]),(6,[]),(7,[]),(8,[])] 6 [⟨[],3,42,43⟩,⟨[],22,38,39⟩] [8,7,6,5,4,3,2,1,0] rfl kr (fun cx => ?_)
  refine aI tOk 9 22 0 39 43 44 none ⟨(.box 0),[(0,0)],0,false,1,(CV.frzEs (x0.b.map byteRow))⟩ x0.i [.lit (.int .u8 v3)] _ kr (oM K124x4 kr) (dM K124x4 kr) kr kr kr rfl (idx_isF ev3) rfl (fun cx => ?_)
  refine mU tOk K124x4 [(10,[]),(11,[]),(12,[]),(13,[]),(14,[])] 0 [⟨[],3,42,43⟩,⟨[],22,38,39⟩] [14,13,12,11,10,9,8,7,6,5,4,3,2,1,0] rfl kr (fun cx => ?_)
  exact mD K124x4 [3,0] [0] _ kr kr rfl
 refine tE tOk 9 9 1 kr kr ?_
 refine tG tOk 2 5 1 kr kr ?_
 refine te ?_
 obtain rfl := si H
 exact Fin.ofY _ [(false,[cI (IntKind.wrap .i64 (BitVec.ofInt (IntKind.bits .i64) (IntKind.wrap .i64 ((IntKind.wrap .i64 (BitVec.ofInt (IntKind.bits .i64) (IntKind.wrap .i64 (BitVec.ofInt (IntKind.bits .i64) (Int.fdiv (IntKind.wrap .i64 ((IntKind.wrap .i64 (x0.h * 0x5851f42d4c957f2d)) + 0x14057b7ef767814f)) (2 ^ min ((33 : Int)).toNat (IntKind.bits .i64))) ^^^ BitVec.ofInt (IntKind.bits .i64) (Int.fdiv (IntKind.wrap .i64 ((IntKind.wrap .i64 (x0.h * 0x5851f42d4c957f2d)) + 0x14057b7ef767814f)) (2 ^ min ((47 : Int)).toNat (IntKind.bits .i64)))).toNat) &&& BitVec.ofInt (IntKind.bits .i64) 255).toNat) + (IntKind.wrap .i64 v3))) &&& BitVec.ofInt (IntKind.bits .i64) 255).toNat)])] [] _ [] _ [(0,[cF 1 x0.b byteRow,cI (IntKind.wrap .i64 (x0.i + 1)),cI (IntKind.wrap .i64 ((IntKind.wrap .i64 (x0.h * 0x5851f42d4c957f2d)) + 0x14057b7ef767814f))])] kr rfl rfl rfl kr kr kr kr rfl rfl rfl
def spec_l1BelowF (n : Nat) (x0 : Src) (x1 : Int) : Option (Int × Src) :=
  (bif (decide (x1 ≤ 0)) then (some (0,x0)) else (bif (decide (x1 ≤ 256)) then ((spec_l1ByteF n x0).bind fun r5 => (bif (decide ((x1 : Int) ≠ 0)) then (some ((Int.tmod r5.1 x1),r5.2)) else none)) else ((spec_l1ByteF n x0).bind fun r1 => ((spec_l1ByteF n r1.2).bind fun r2 => ((spec_l1ByteF n r2.2).bind fun r3 => (bif (decide ((x1 : Int) ≠ 0)) then (some ((Int.tmod (IntKind.wrap .i64 ((IntKind.wrap .i64 ((IntKind.wrap .i64 (r1.1 * 65536)) + (IntKind.wrap .i64 (r2.1 * 256)))) + r3.1)) x1),r3.2)) else none))))))
noncomputable abbrev G54 (k : Nat) := Rg Try.f54 k
theorem spec_l1Below (n : Nat) (x0 : Src) (x1 : Int) (r : Int × Src) (H : spec_l1BelowF n x0 x1 = some r) : LCall Try.prog 54 [.ptr (CV.frzRow (Src.row x0)),.val false [.lit (.int .i64 x1)]] [.val false [.lit (.int .i64 r.1)]] [(0,(CV.frzRow (Src.row r.2)))] := by
 refine LCall.of_body tOk Try.func54 rfl (c := (.seq (G54 0) (.seq (.seq (G54 1) (.cond (.tmp 9) (.seq (G54 2) .ret) .skip)) (.seq (.seq (G54 3) (.cond (.tmp 11) (.seq (G54 4) .ret) .skip)) (.seq (G54 5) (.seq (G54 6) (.seq (G54 7) (.seq (G54 8) .ret)))))))) kr (Nat.le_of_ble_eq_true kr) 1 (rs := [.tmp 4]) rfl [] .nil [(false,[.lit (.int .i64 r.1)])] [] [(0,(CV.frzRow (Src.row r.2)))] fun cx => ?_
 show Tr _ _ _ ⟨31,1,[sA 0 0 3 0,sI 1 x1],[(0,(CV.frzRow (Src.row x0)))]⟩ _
 unfold spec_l1BelowF at H
 refine tG tOk 1 3 1 kr kr ?_
 refine tS ?_
 refine tG tOk 2 515 1 kr kr ?_
 obtain ⟨h1,H⟩ | ⟨h1,H⟩ := bC H
 ·refine tF h1 kr ?_
  refine tK ?_
  refine tS ?_
  refine tG tOk 2 2051 1 kr kr ?_
  obtain ⟨h2,H⟩ | ⟨h2,H⟩ := bC H
  ·refine tF h2 kr ?_
   refine tK ?_
   refine rU tOk 1 kr ?_
   obtain ⟨r1,er1,H⟩ := bind_some H
   refine LAt.callL tOk [.lend] (f := 124) (av := #[.tmp 16]) (ats := #[100]) (d := (some 17)) (ty := 3) (g := none) kr kr kr [] (spec_l1Byte n x0 r1 er1) kr (.inl rfl) ?_
   refine uD tOk 1 35 1 kr kr ?_
   refine rU tOk 1 kr ?_
   obtain ⟨r2,er2,H⟩ := bind_some H
   refine LAt.callL tOk [.lend] (f := 124) (av := #[.tmp 18]) (ats := #[100]) (d := (some 19)) (ty := 3) (g := none) kr kr kr [] (spec_l1Byte n r1.2 r2 er2) kr (.inl rfl) ?_
   refine uD tOk 1 99 1 kr kr ?_
   refine rU tOk 1 kr ?_
   obtain ⟨r3,er3,H⟩ := bind_some H
   refine LAt.callL tOk [.lend] (f := 124) (av := #[.tmp 20]) (ats := #[100]) (d := (some 21)) (ty := 3) (g := none) kr kr kr [] (spec_l1Byte n r2.2 r3 er3) kr (.inl rfl) ?_
   refine uD tOk 1 227 1 kr kr ?_
   refine rU tOk 8 kr ?_
   obtain ⟨hg4,H⟩ := guard_some H
   refine LAt.binC tOk (op := .rem) (t := 3) (ty := 3) (ty' := 3) (x := (.tmp 28)) (y := (.tmp 29)) (d := 30) (g := none) (.int .i64 (IntKind.wrap .i64 ((IntKind.wrap .i64 ((IntKind.wrap .i64 (r1.1 * 65536)) + (IntKind.wrap .i64 (r2.1 * 256)))) + r3.1))) (.int .i64 x1) (.int .i64 (Int.tmod (IntKind.wrap .i64 ((IntKind.wrap .i64 ((IntKind.wrap .i64 (r1.1 * 65536)) + (IntKind.wrap .i64 (r2.1 * 256)))) + r3.1)) x1)) _ kr kr kr kr kr (φ := (IntKind.i64 = IntKind.i64 ∧ (x1 : Int) ≠ 0)) kr (⟨rfl,of_decide_eq_true hg4⟩) rfl ?_
   refine uD tOk 1 17 1 kr kr ?_
   refine te ?_
   obtain rfl := si H
   exact Fin.ofY _ [(false,[cI (Int.tmod (IntKind.wrap .i64 ((IntKind.wrap .i64 ((IntKind.wrap .i64 (r1.1 * 65536)) + (IntKind.wrap .i64 (r2.1 * 256)))) + r3.1)) x1)])] [] _ [] _ [(0,(CV.frzRow (Src.row r3.2)))] kr rfl rfl rfl kr kr kr kr rfl rfl rfl
  refine tT h2 kr ?_
  refine rU tOk 1 kr ?_
  obtain ⟨r5,er5,H⟩ := bind_some H
  refine LAt.callL tOk [.lend] (f := 124) (av := #[.tmp 12]) (ats := #[100]) (d := (some 13)) (ty := 3) (g := none) kr kr kr [] (spec_l1Byte n x0 r5 er5) kr (.inl rfl) ?_
  refine lU tOk 1 kr ?_
  obtain ⟨hg6,H⟩ := guard_some H
  refine LAt.binC tOk (op := .rem) (t := 3) (ty := 3) (ty' := 3) (x := (.tmp 13)) (y := (.tmp 14)) (d := 15) (g := none) (.int .i64 r5.1) (.int .i64 x1) (.int .i64 (Int.tmod r5.1 x1)) _ kr kr kr kr kr (φ := (IntKind.i64 = IntKind.i64 ∧ (x1 : Int) ≠ 0)) kr (⟨rfl,of_decide_eq_true hg6⟩) rfl ?_
  refine uD tOk 1 17 1 kr kr ?_
  refine te ?_
  obtain rfl := si H
  exact Fin.ofY _ [(false,[cI (Int.tmod r5.1 x1)])] [] _ [] _ [(0,(CV.frzRow (Src.row r5.2)))] kr rfl rfl rfl kr kr kr kr rfl rfl rfl
 refine tT h1 kr ?_
 refine tG tOk 1 17 1 kr kr ?_
 refine te ?_
 obtain rfl := si H
 exact Fin.ofY _ [(false,[cI 0])] [] _ [] _ [(0,(CV.frzRow (Src.row x0)))] kr rfl rfl rfl kr kr kr kr rfl rfl rfl
def spec_l1IntF (n : Nat) (x0 : Src) (x1 : (List Int)) : Option (Int × Src) :=
  ((spec_l1BelowF n x0 (x1.length : Int)).bind fun r1 => ((idx x1 r1.1).bind fun v2 => (some (v2,r1.2))))
noncomputable abbrev G56 (k : Nat) := Rg Try.f56 k
theorem spec_l1Int (n : Nat) (x0 : Src) (x1 : (List Int)) (r : Int × Src) (H : spec_l1IntF n x0 x1 = some r) : LCall Try.prog 56 [.ptr (CV.frzRow (Src.row x0)),.val false [.sl false 1 (CV.frzEs (x1.map intRow))]] [.val false [.lit (.int .i64 r.1)]] [(0,(CV.frzRow (Src.row r.2)))] := by
 refine LCall.of_body tOk Try.func56 rfl (c := (.seq (G56 0) (.seq (G56 1) .ret))) kr (Nat.le_of_ble_eq_true kr) 1 (rs := [.tmp 4]) rfl [] .nil [(false,[.lit (.int .i64 r.1)])] [] [(0,(CV.frzRow (Src.row r.2)))] fun cx => ?_
 show Tr _ _ _ ⟨12,1,[sA 0 0 3 0,sC 1 (cF 1 x1 intRow)],[(0,(CV.frzRow (Src.row x0)))]⟩ _
 unfold spec_l1IntF at H
 refine tG tOk 1 3 1 kr kr ?_
 refine rU tOk 3 kr ?_
 refine lL tOk 27 3 3 7 8 none ⟨(.slot 7),[],0,false,1,(CV.frzEs (x1.map intRow))⟩ (x1).length _ kr kr kr kr kr (frz_len _ _) rfl ?_
 obtain ⟨r1,er1,H⟩ := bind_some H
 refine LAt.callL tOk [.lend,.rd] (f := 54) (av := #[.tmp 6,.tmp 8]) (ats := #[100,3]) (d := (some 9)) (ty := 3) (g := none) kr kr kr [] (spec_l1Below n x0 (x1.length : Int) r1 er1) kr (.inl rfl) ?_
 obtain ⟨v2,ev2,H⟩ := bind_some H
 refine lI tOk 27 0 5 9 10 none ⟨(.slot 5),[],0,false,1,(CV.frzEs (x1.map intRow))⟩ r1.1 [cI v2] _ kr kr kr kr rfl (idx_isF ev2) rfl ?_
 refine uD tOk 2 17 1 kr kr ?_
 refine te ?_
 obtain rfl := si H
 exact Fin.ofY _ [(false,[cI v2])] [] _ [] _ [(0,(CV.frzRow (Src.row r1.2)))] kr rfl rfl rfl kr kr kr kr rfl rfl rfl
def spec_DrawVtabNewF (n : Nat) (x0 : (List Int)) : Option (Int) :=
  ((spec_l1NewF n x0).bind fun r1 => ((spec_l1IntF n r1 [1,3,6,0,7,(-1)]).bind fun r2 => (some r2.1)))
noncomputable abbrev G31 (k : Nat) := Rg Try.f31 k
theorem spec_DrawVtabNew (n : Nat) (x0 : (List Int)) (r : Int) (H : spec_DrawVtabNewF n x0 = some r) : LCall Try.prog 31 [.val false [.sl false 1 (CV.frzEs (x0.map byteRow))]] [.val false [.lit (.int .i64 r)]] [] := by
 refine LCall.of_body tOk Try.func31 rfl (c := (.seq (G31 0) (.seq (G31 1) (.seq (G31 2) .ret)))) kr (Nat.le_of_ble_eq_true kr) 0 (rs := [.tmp 2]) rfl [] .nil [(false,[.lit (.int .i64 r)])] [] [] fun cx => ?_
 show Tr _ _ _ ⟨9,0,[sC 0 (cF 1 x0 byteRow)],[]⟩ _
 unfold spec_DrawVtabNewF at H
 refine tG tOk 1 1 0 kr kr ?_
 refine rU tOk 1 kr ?_
 obtain ⟨r1,er1,H⟩ := bind_some H
 refine lV tOk [.rd] [] (spec_l1New n x0 r1 er1) kr kr kr kr (.inl rfl) ?_
 refine uD tOk 1 8 32 kr kr ?_
 refine rU tOk 2 kr ?_
 obtain ⟨r2,er2,H⟩ := bind_some H
 refine LAt.callL tOk [.lend,.rd] (f := 56) (av := #[.tmp 6,.tmp 7]) (ats := #[100,27]) (d := (some 8)) (ty := 3) (g := none) kr kr kr [] (spec_l1Int n r1 [1,3,6,0,7,(-1)] r2 er2) kr (.inl rfl) ?_
 refine uD tOk 1 4 0 kr kr ?_
 exact te (by obtain rfl := si H; exact fO [(false,[cI r2.1])] kr rfl rfl)
def impl_inF (n : Nat) (x0 : Int) (x1 : Int) (x2 : Int) : Option (Bool) :=
  (bif (decide (x0 ≥ x1)) then (some (decide (x0 ≤ x2))) else (some false))
noncomputable abbrev G63 (k : Nat) := Rg Try.f63 k
theorem impl_in (n : Nat) (x0 : Int) (x1 : Int) (x2 : Int) (r : Bool) (H : impl_inF n x0 x1 x2 = some r) : LCall Try.prog 63 [.val false [.lit (.int .i64 x0)],.val false [.lit (.int .i64 x1)],.val false [.lit (.int .i64 x2)]] [.val false [.lit (.bool r)]] [] := by
 refine LCall.of_body tOk Try.func63 rfl (c := (.seq (G63 0) (.seq (G63 1) .ret))) kr (Nat.le_of_ble_eq_true kr) 0 (rs := [.tmp 6]) rfl [] .nil [(false,[.lit (.bool r)])] [] [] fun cx => ?_
 show Tr _ _ _ ⟨15,0,[sI 0 x0,sI 1 x1,sI 2 x2],[]⟩ _
 unfold impl_inF at H
 refine tG tOk 1 7 0 kr kr ?_
 refine rU tOk 4 kr ?_
 refine lT ⟨15,0,[sB 10 (decide (x0 ≥ x1)),sB 9 (decide (x0 ≥ x1)),sI 8 x1,sI 7 x0,sI 0 x0,sI 1 x1,sI 2 x2],[]⟩ kr ?_
 cases h1 : (decide (x0 ≥ x1))
 ·have H := bifF h1 H
  refine uD tOk 5 64 0 kr kr ?_
  exact te (by obtain rfl := si H; exact fO [(false,[cB false])] kr rfl rfl)
 have H := bifT h1 H
 refine uD tOk 5 64 0 kr kr ?_
 exact te (by obtain rfl := si H; exact fO [(false,[cB (decide (x0 ≤ x2))])] kr rfl rfl)
def impl_allPortsF (n : Nat) (x0 : Int) : Option (Int) :=
  (bif (decide ((0 : Int) ≤ x0)) then (some (IntKind.wrap .i64 ((IntKind.wrap .i64 (1 * 2 ^ min ((x0 : Int)).toNat (IntKind.bits .i64))) - 1))) else none)
noncomputable abbrev G100 (k : Nat) := Rg Try.f100 k
theorem impl_allPorts (n : Nat) (x0 : Int) (r : Int) (H : impl_allPortsF n x0 = some r) : LCall Try.prog 100 [.val false [.lit (.int .i64 x0)]] [.val false [.lit (.int .i64 r)]] [] := by
 refine LCall.of_body tOk Try.func100 rfl (c := (.seq (G100 0) (.seq (G100 1) .ret))) kr (Nat.le_of_ble_eq_true kr) 0 (rs := [.tmp 2]) rfl [] .nil [(false,[.lit (.int .i64 r)])] [] [] fun cx => ?_
 show Tr _ _ _ ⟨6,0,[sI 0 x0],[]⟩ _
 unfold impl_allPortsF at H
 refine tG tOk 1 1 0 kr kr ?_
 refine rU tOk 1 kr ?_
 obtain ⟨hg1,H⟩ := guard_some H
 refine LAt.binC tOk (op := .shl) (t := 3) (ty := 3) (ty' := 3) (x := (.const (.int .i64 1))) (y := (.tmp 3)) (d := 4) (g := none) (.int .i64 1) (.int .i64 x0) (.int .i64 (IntKind.wrap .i64 (1 * 2 ^ min ((x0 : Int)).toNat (IntKind.bits .i64)))) _ kr kr kr kr kr (φ := (0 : Int) ≤ x0) kr (of_decide_eq_true hg1) rfl ?_
 refine uD tOk 2 4 0 kr kr ?_
 exact te (by obtain rfl := si H; exact fO [(false,[cI (IntKind.wrap .i64 ((IntKind.wrap .i64 (1 * 2 ^ min ((x0 : Int)).toNat (IntKind.bits .i64))) - 1))])] kr rfl rfl)
def impl_VtabNew_J1 (n : Nat) (r2 : Int) (r3 : Int) (y6 : (List Int)) : Option (Vtab) :=
  (some (⟨[(⟨1,r2,r3⟩ : Vrow)],y6⟩ : Vtab))
def impl_VtabNew_L2 (n : Nat) : Nat → Int → Int → (List Int) → Option (((List Int)) ⊕ (Vtab))
  | 0,_,_,_ => none
  | mo7 + 1,x0,y4,y5 => (bif (decide (y4 < x0)) then (bif (decide (y5.length + [1].length ≤ 268435456)) then (impl_VtabNew_L2 n mo7 x0 (IntKind.wrap .i64 (y4 + 1)) (y5 ++ [1])) else none) else (some (Sum.inl y5)))
def impl_VtabNewF (n : Nat) (x0 : Int) : Option (Vtab) :=
  ((impl_inF n x0 1 6).bind fun r1 => (bif (!r1) then (some (⟨([] : List Vrow),([] : List Int)⟩ : Vtab)) else ((impl_allPortsF n x0).bind fun r2 => ((impl_allPortsF n x0).bind fun r3 => ((impl_VtabNew_L2 n n x0 0 ([] : List Int)).bind fun o => match o with | .inl y6 => (impl_VtabNew_J1 n r2 r3 y6) | .inr r => some r)))))
noncomputable abbrev G32 (k : Nat) := Rg Try.f32 k
theorem impl_VtabNew (n : Nat) (x0 : Int) (r : Vtab) (H : impl_VtabNewF n x0 = some r) : LCall Try.prog 32 [.val false [.lit (.int .i64 x0)]] [.val true (Vtab.row r)] [] := by
 refine LCall.of_body tOk Try.func32 rfl (c := (.seq (G32 0) (.seq (.seq (G32 1) (.cond (.tmp 6) (.seq (G32 2) .ret) .skip)) (.seq (G32 3) (.seq (.seq (G32 4) (.block 0 (.loop (.seq (G32 5) (.seq (.cond (.tmp 17) .skip (.exit 0)) (.seq (.block 1 (G32 6)) (G32 7))))))) (.seq (G32 8) .ret)))))) kr (Nat.le_of_ble_eq_true kr) 0 (rs := [.cell 2 29]) rfl [] .nil [(true,(Vtab.row r))] [] [] fun cx => ?_
 show Tr _ _ _ ⟨25,0,[sI 0 x0],[]⟩ _
 unfold impl_VtabNewF at H
 refine tG tOk 1 5 4 kr kr ?_
 refine tS ?_
 refine rU tOk 1 kr ?_
 obtain ⟨r1,er1,H⟩ := bind_some H
 refine lV tOk [.rd,.rd,.rd] [] (impl_in n x0 1 6 r1 er1) kr kr kr kr (.inl rfl) ?_
 refine uD tOk 1 69 4 kr kr ?_
 obtain ⟨h1,H⟩ | ⟨h1,H⟩ := bC H
 ·refine tF h1 kr ?_
  refine tK ?_
  refine rU tOk 1 kr ?_
  obtain ⟨r2,er2,H⟩ := bind_some H
  refine lV tOk [.rd] [] (impl_allPorts n x0 r2 er2) kr kr kr kr (.inl rfl) ?_
  refine lU tOk 1 kr ?_
  obtain ⟨r3,er3,H⟩ := bind_some H
  refine lV tOk [.rd] [] (impl_allPorts n x0 r3 er3) kr kr kr kr (.inl rfl) ?_
  refine uD tOk 5 13 12 kr kr ?_
  refine tS ?_
  refine tG tOk 2 98316 12 kr kr ?_
  obtain ⟨o7,eo7,Ho7⟩ := bind_some H
  clear H
  refine Tr.mid (ι := (List Int)) (fun v => ⟨25,0,[sA 3 3 2 0,sA 2 2 2 0],[(3,[cL 3 [(⟨1,r2,r3⟩ : Vrow)] Vrow.row,cL 1 v intRow]),(2,[cL 3 ([] : List Vrow) Vrow.row,cL 1 ([] : List Int) intRow])]⟩) (fun v => impl_VtabNew_J1 n r2 r3 v = some r) ?_ ?_
  ·refine tB ?_
   refine Tr.loop (ι := Nat × (Int × (List Int))) (fun v => ⟨25,0,[sI 16 v.2.1,sI 15 x0,sA 3 3 2 0,sA 2 2 2 0],[(3,[cL 3 [(⟨1,r2,r3⟩ : Vrow)] Vrow.row,cL 1 v.2.2 intRow]),(2,[cL 3 ([] : List Vrow) Vrow.row,cL 1 ([] : List Int) intRow])]⟩) (fun v => impl_VtabNew_L2 n v.1 x0 v.2.1 v.2.2 = some o7) (fun v => v.1) (n,(0,([] : List Int))) eo7 (St.sub_of [16,15,3,2] [3,2] kr) ?_
   rintro ⟨mo7,y4,y5⟩ H
   have H : impl_VtabNew_L2 n mo7 x0 y4 y5 = some o7 := H
   obtain _ | mo7 := mo7
   ·cases (show (none : Option _) = some o7 from H)
   rw [impl_VtabNew_L2] at H
   refine tG tOk 1 229388 12 kr kr ?_
   refine tS ?_
   obtain ⟨h2,H⟩ | ⟨h2,H⟩ := bC H
   ·refine tF h2 kr ?_
    refine Tr.exit ?_
    refine And.intro (fun _ => ?_) (fun h => absurd rfl h)
    obtain rfl := si H
    have H := Ho7
    dsimp only at H
    exact jn y5 H (sB_ [3,2] [3,2] kr)
   refine tT h2 kr ?_
   refine tK ?_
   refine tS ?_
   refine tB ?_
   refine Tr.at ?_
   refine lU tOk 3 kr ?_
   obtain ⟨hg8,H⟩ := guard_some H
   refine LAt.appMU tOk (t := 27) (ty := 27) (e := 3) (x := (.tmp 19)) (y := (.tmp 20)) (d := 21) (g := none) (tI 3) intRow y5 [1] kr kr kr kr kr kr kr kr kr kr hg8 ?_
   refine uD tOk 2 98316 12 kr kr ?_
   refine tE tOk 2 98316 12 kr kr ?_
   exact jn (mo7,((IntKind.wrap .i64 (y4 + 1)),(y5 ++ [1]))) H (sM mo7 [16,15,3,2] [3,2] kr)
  rintro y6 H
  have H : (impl_VtabNew_J1 n r2 r3 y6) = some r := H
  unfold impl_VtabNew_J1 at H
  refine tG tOk 2 4 4 kr kr ?_
  exact te (by obtain rfl := si H; exact fO [(true,[cL 3 [(⟨1,r2,r3⟩ : Vrow)] Vrow.row,cL 1 y6 intRow])] kr rfl rfl)
 refine tT h1 kr ?_
 refine tG tOk 2 4 4 kr kr ?_
 exact te (by obtain rfl := si H; exact fO [(true,[cL 3 ([] : List Vrow) Vrow.row,cL 1 ([] : List Int) intRow])] kr rfl rfl)
def spec_l1InF (n : Nat) (x0 : Int) (x1 : Int) (x2 : Int) : Option (Bool) :=
  (bif (decide (x0 ≥ x1)) then (some (decide (x0 ≤ x2))) else (some false))
noncomputable abbrev G88 (k : Nat) := Rg Try.f88 k
theorem spec_l1In (n : Nat) (x0 : Int) (x1 : Int) (x2 : Int) (r : Bool) (H : spec_l1InF n x0 x1 x2 = some r) : LCall Try.prog 88 [.val false [.lit (.int .i64 x0)],.val false [.lit (.int .i64 x1)],.val false [.lit (.int .i64 x2)]] [.val false [.lit (.bool r)]] [] := by
 refine LCall.of_body tOk Try.func88 rfl (c := (.seq (G88 0) (.seq (G88 1) .ret))) kr (Nat.le_of_ble_eq_true kr) 0 (rs := [.tmp 6]) rfl [] .nil [(false,[.lit (.bool r)])] [] [] fun cx => ?_
 show Tr _ _ _ ⟨15,0,[sI 0 x0,sI 1 x1,sI 2 x2],[]⟩ _
 unfold spec_l1InF at H
 refine tG tOk 1 7 0 kr kr ?_
 refine rU tOk 4 kr ?_
 refine lT ⟨15,0,[sB 10 (decide (x0 ≥ x1)),sB 9 (decide (x0 ≥ x1)),sI 8 x1,sI 7 x0,sI 0 x0,sI 1 x1,sI 2 x2],[]⟩ kr ?_
 cases h1 : (decide (x0 ≥ x1))
 ·have H := bifF h1 H
  refine uD tOk 5 64 0 kr kr ?_
  exact te (by obtain rfl := si H; exact fO [(false,[cB false])] kr rfl rfl)
 have H := bifT h1 H
 refine uD tOk 5 64 0 kr kr ?_
 exact te (by obtain rfl := si H; exact fO [(false,[cB (decide (x0 ≤ x2))])] kr rfl rfl)
def spec_VtabNew_J1 (n : Nat) (x0 : Int) (y5 : (List Int)) : Option (Vtab) :=
  (some (⟨[(⟨1,(IntKind.wrap .i64 ((IntKind.wrap .i64 (1 * 2 ^ min (((IntKind.wrap .u64 x0) : Int)).toNat (IntKind.bits .i64))) - 1)),(IntKind.wrap .i64 ((IntKind.wrap .i64 (1 * 2 ^ min (((IntKind.wrap .u64 x0) : Int)).toNat (IntKind.bits .i64))) - 1))⟩ : Vrow)],y5⟩ : Vtab))
def spec_VtabNew_L2 (n : Nat) : Nat → Int → Int → (List Int) → Option (((List Int)) ⊕ (Vtab))
  | 0,_,_,_ => none
  | mo6 + 1,x0,y3,y4 => (bif (decide (y3 < x0)) then (bif (decide (y4.length + [1].length ≤ 268435456)) then (spec_VtabNew_L2 n mo6 x0 (IntKind.wrap .i64 (y3 + 1)) (y4 ++ [1])) else none) else (some (Sum.inl y4)))
def spec_VtabNewF (n : Nat) (x0 : Int) : Option (Vtab) :=
  ((spec_l1InF n x0 1 6).bind fun r1 => (bif (!r1) then (some (⟨([] : List Vrow),([] : List Int)⟩ : Vtab)) else (bif (decide ((0 : Int) ≤ (IntKind.wrap .u64 x0))) then ((spec_VtabNew_L2 n n x0 0 ([] : List Int)).bind fun o => match o with | .inl y5 => (spec_VtabNew_J1 n x0 y5) | .inr r => some r) else none)))
noncomputable abbrev G43 (k : Nat) := Rg Try.f43 k
theorem spec_VtabNew (n : Nat) (x0 : Int) (r : Vtab) (H : spec_VtabNewF n x0 = some r) : LCall Try.prog 43 [.val false [.lit (.int .i64 x0)]] [.val true (Vtab.row r)] [] := by
 refine LCall.of_body tOk Try.func43 rfl (c := (.seq (G43 0) (.seq (.seq (G43 1) (.cond (.tmp 8) (.seq (G43 2) .ret) .skip)) (.seq (G43 3) (.seq (G43 4) (.seq (.seq (G43 5) (.block 0 (.loop (.seq (.seq (G43 6) (.cond (.tmp 21) .skip (.exit 0))) (.seq (.block 1 (G43 8)) (G43 7)))))) (.seq (G43 9) .ret))))))) kr (Nat.le_of_ble_eq_true kr) 0 (rs := [.cell 2 29]) rfl [] .nil [(true,(Vtab.row r))] [] [] fun cx => ?_
 show Tr _ _ _ ⟨30,0,[sI 0 x0],[]⟩ _
 unfold spec_VtabNewF at H
 refine tG tOk 1 5 4 kr kr ?_
 refine tS ?_
 refine rU tOk 1 kr ?_
 obtain ⟨r1,er1,H⟩ := bind_some H
 refine lV tOk [.rd,.rd,.rd] [] (spec_l1In n x0 1 6 r1 er1) kr kr kr kr (.inl rfl) ?_
 refine uD tOk 1 261 4 kr kr ?_
 obtain ⟨h1,H⟩ | ⟨h1,H⟩ := bC H
 ·refine tF h1 kr ?_
  refine tK ?_
  refine rU tOk 2 kr ?_
  obtain ⟨hg2,H⟩ := guard_some H
  refine LAt.binC tOk (op := .shl) (t := 3) (ty := 112) (ty' := 3) (x := (.const (.int .i64 1))) (y := (.tmp 11)) (d := 12) (g := none) (.int .i64 1) (.int .u64 (IntKind.wrap .u64 x0)) (.int .i64 (IntKind.wrap .i64 (1 * 2 ^ min (((IntKind.wrap .u64 x0) : Int)).toNat (IntKind.bits .i64)))) _ kr kr kr kr kr (φ := (0 : Int) ≤ (IntKind.wrap .u64 x0)) kr (of_decide_eq_true hg2) rfl ?_
  refine uD tOk 2 13 4 kr kr ?_
  refine tG tOk 7 21 20 kr kr ?_
  refine tS ?_
  refine tG tOk 1 53 20 kr kr ?_
  obtain ⟨o6,eo6,Ho6⟩ := bind_some H
  clear H
  refine Tr.mid (ι := (List Int)) (fun v => ⟨30,0,[sA 4 4 2 0,sA 2 2 2 0],[(4,[cL 3 [(⟨1,(IntKind.wrap .i64 ((IntKind.wrap .i64 (1 * 2 ^ min (((IntKind.wrap .u64 x0) : Int)).toNat (IntKind.bits .i64))) - 1)),(IntKind.wrap .i64 ((IntKind.wrap .i64 (1 * 2 ^ min (((IntKind.wrap .u64 x0) : Int)).toNat (IntKind.bits .i64))) - 1))⟩ : Vrow)] Vrow.row,cL 1 v intRow]),(2,[cL 3 ([] : List Vrow) Vrow.row,cL 1 ([] : List Int) intRow])]⟩) (fun v => spec_VtabNew_J1 n x0 v = some r) ?_ ?_
  ·refine tB ?_
   refine Tr.loop (ι := Nat × (Int × (List Int))) (fun v => ⟨30,0,[sI 5 v.2.1,sA 4 4 2 0,sA 2 2 2 0,sI 0 x0],[(4,[cL 3 [(⟨1,(IntKind.wrap .i64 ((IntKind.wrap .i64 (1 * 2 ^ min (((IntKind.wrap .u64 x0) : Int)).toNat (IntKind.bits .i64))) - 1)),(IntKind.wrap .i64 ((IntKind.wrap .i64 (1 * 2 ^ min (((IntKind.wrap .u64 x0) : Int)).toNat (IntKind.bits .i64))) - 1))⟩ : Vrow)] Vrow.row,cL 1 v.2.2 intRow]),(2,[cL 3 ([] : List Vrow) Vrow.row,cL 1 ([] : List Int) intRow])]⟩) (fun v => spec_VtabNew_L2 n v.1 x0 v.2.1 v.2.2 = some o6) (fun v => v.1) (n,(0,([] : List Int))) eo6 (St.sub_of [5,4,2,0] [4,2] kr) ?_
   rintro ⟨mo6,y3,y4⟩ H
   have H : spec_VtabNew_L2 n mo6 x0 y3 y4 = some o6 := H
   obtain _ | mo6 := mo6
   ·cases (show (none : Option _) = some o6 from H)
   rw [spec_VtabNew_L2] at H
   refine tS ?_
   refine tG tOk 3 2097205 20 kr kr ?_
   obtain ⟨h2,H⟩ | ⟨h2,H⟩ := bC H
   ·refine tF h2 kr ?_
    refine Tr.exit ?_
    refine And.intro (fun _ => ?_) (fun h => absurd rfl h)
    obtain rfl := si H
    have H := Ho6
    dsimp only at H
    exact jn y4 H (sB_ [4,2] [4,2] kr)
   refine tT h2 kr ?_
   refine tK ?_
   refine tS ?_
   refine tB ?_
   refine Tr.at ?_
   refine lU tOk 3 kr ?_
   obtain ⟨hg7,H⟩ := guard_some H
   refine LAt.appMU tOk (t := 27) (ty := 27) (e := 3) (x := (.tmp 25)) (y := (.tmp 26)) (d := 27) (g := none) (tI 3) intRow y4 [1] kr kr kr kr kr kr kr kr kr kr hg7 ?_
   refine uD tOk 2 53 20 kr kr ?_
   refine tE tOk 3 53 20 kr kr ?_
   exact jn (mo6,((IntKind.wrap .i64 (y3 + 1)),(y4 ++ [1]))) H (sM mo6 [5,4,2,0] [4,2] kr)
  rintro y5 H
  have H : (spec_VtabNew_J1 n x0 y5) = some r := H
  unfold spec_VtabNew_J1 at H
  refine tG tOk 2 4 4 kr kr ?_
  exact te (by obtain rfl := si H; exact fO [(true,[cL 3 [(⟨1,(IntKind.wrap .i64 ((IntKind.wrap .i64 (1 * 2 ^ min (((IntKind.wrap .u64 x0) : Int)).toNat (IntKind.bits .i64))) - 1)),(IntKind.wrap .i64 ((IntKind.wrap .i64 (1 * 2 ^ min (((IntKind.wrap .u64 x0) : Int)).toNat (IntKind.bits .i64))) - 1))⟩ : Vrow)] Vrow.row,cL 1 y5 intRow])] kr rfl rfl)
 refine tT h1 kr ?_
 refine tG tOk 2 4 4 kr kr ?_
 exact te (by obtain rfl := si H; exact fO [(true,[cL 3 ([] : List Vrow) Vrow.row,cL 1 ([] : List Int) intRow])] kr rfl rfl)
def spec_RowAt_J1 (n : Nat) : Option (Int) :=
  (some (-1))
def spec_RowAt_L2 (n : Nat) : Nat → Vtab → Int → Int → Option ((Unit) ⊕ (Int))
  | 0,_,_,_ => none
  | mo2 + 1,x0,x1,y1 => (bif (decide (y1 < (x0.Rows.length : Int))) then ((idx x0.Rows y1).bind fun v3 => (bif (v3.Id == x1) then (some (Sum.inr y1)) else (spec_RowAt_L2 n mo2 x0 x1 (IntKind.wrap .i64 (y1 + 1))))) else (some (Sum.inl ())))
def spec_RowAtF (n : Nat) (x0 : Vtab) (x1 : Int) : Option (Int) :=
  ((spec_RowAt_L2 n n x0 x1 0).bind fun o => match o with | .inl _ => (spec_RowAt_J1 n) | .inr r => some r)
noncomputable abbrev G106 (k : Nat) := Rg Try.f106 k
theorem spec_RowAt (n : Nat) (x0 : Vtab) (x1 : Int) (r : Int) (H : spec_RowAtF n x0 x1 = some r) : LCall Try.prog 106 [.val true (CV.frzRow (Vtab.row x0)),.val false [.lit (.int .i64 x1)]] [.val false [.lit (.int .i64 r)]] [] := by
 refine LCall.of_body tOk Try.func106 rfl (c := (.seq (G106 0) (.seq (.seq (G106 1) (.block 0 (.loop (.seq (.seq (G106 2) (.cond (.tmp 10) .skip (.exit 0))) (.seq (.block 1 (.seq (G106 4) (.cond (.tmp 20) (.seq (G106 5) .ret) .skip))) (G106 3)))))) (.seq (G106 6) .ret)))) kr (Nat.le_of_ble_eq_true kr) 0 (rs := [.tmp 4]) rfl [] .nil [(false,[.lit (.int .i64 r)])] [] [] fun cx => ?_
 show Tr _ _ _ ⟨22,0,[sV 0 (CV.frzRow (Vtab.row x0)),sI 1 x1],[]⟩ _
 unfold spec_RowAtF at H
 refine tG tOk 2 6 4 kr kr ?_
 refine tS ?_
 refine tG tOk 1 38 4 kr kr ?_
 obtain ⟨o2,eo2,Ho2⟩ := bind_some H
 clear H
 refine Tr.mid (ι := Unit) (fun v => ⟨22,0,[],[]⟩) (fun v => spec_RowAt_J1 n = some r) ?_ ?_
 ·refine tB ?_
  refine Tr.loop (ι := Nat × (Int)) (fun v => ⟨22,0,[sI 5 v.2,sA 2 2 2 0,sI 1 x1],[(2,(CV.frzRow (Vtab.row x0)))]⟩) (fun v => spec_RowAt_L2 n v.1 x0 x1 v.2 = some o2) (fun v => v.1) (n,0) eo2 (St.sub_of [5,2,1] [2] kr) ?_
  rintro ⟨mo2,y1⟩ H
  have H : spec_RowAt_L2 n mo2 x0 x1 y1 = some o2 := H
  obtain _ | mo2 := mo2
  ·cases (show (none : Option _) = some o2 from H)
  rw [spec_RowAt_L2] at H
  refine tS ?_
  refine rU tOk 3 kr ?_
  refine lL tOk 26 3 124 8 9 none ⟨(.slot 8),[],0,false,3,(CV.frzEs (x0.Rows.map Vrow.row))⟩ (x0.Rows).length _ kr kr kr kr kr (frz_len _ _) rfl ?_
  refine uD tOk 1 1062 4 kr kr ?_
  obtain ⟨h1,H⟩ | ⟨h1,H⟩ := bC H
  ·refine tF h1 kr ?_
   refine Tr.exit ?_
   refine And.intro (fun _ => ?_) (fun h => absurd rfl h)
   obtain rfl := si H
   have H := Ho2
   dsimp only at H
   exact jn () H (sB_ [] [] kr)
  refine tT h1 kr ?_
  refine tK ?_
  refine tS ?_
  refine tB ?_
  refine rU tOk 3 kr ?_
  obtain ⟨v3,ev3,H⟩ := bind_some H
  refine lI tOk 26 0 14 15 16 none ⟨(.slot 14),[],0,false,3,(CV.frzEs (x0.Rows.map Vrow.row))⟩ y1 (Vrow.row v3) _ kr kr kr kr rfl (idx_isF ev3) rfl ?_
  refine uD tOk 4 1048614 4 kr kr ?_
  obtain ⟨h2,H⟩ | ⟨h2,H⟩ := bC H
  ·refine tF h2 kr ?_
   refine tK ?_
   refine tE tOk 3 38 4 kr kr ?_
   exact jn (mo2,(IntKind.wrap .i64 (y1 + 1))) H (sM mo2 [5,2,1] [2] kr)
  refine tT h2 kr ?_
  refine tG tOk 2 16 0 kr kr ?_
  refine te ?_
  obtain rfl := si H
  have H := Ho2
  dsimp only at H
  obtain rfl := si H
  exact fO [(false,[cI y1])] kr rfl rfl
 rintro _ H
 have H : (spec_RowAt_J1 n) = some r := H
 unfold spec_RowAt_J1 at H
 refine tG tOk 1 16 0 kr kr ?_
 exact te (by obtain rfl := si H; exact fO [(false,[cI (-1)])] kr rfl rfl)
def spec_VtabOk_J2 (n : Nat) : Option (Bool) :=
  (some true)
def spec_VtabOk_L3 (n : Nat) : Nat → Vtab → Int → Option ((Unit) ⊕ (Bool))
  | 0,_,_ => none
  | mo5 + 1,x0,y4 => (bif (decide (y4 < (x0.Pvid.length : Int))) then ((idx x0.Pvid y4).bind fun v6 => ((spec_RowAtF n x0 v6).bind fun r7 => (bif (decide (r7 < 0)) then (some (Sum.inr false)) else (spec_VtabOk_L3 n mo5 x0 (IntKind.wrap .i64 (y4 + 1)))))) else (some (Sum.inl ())))
def spec_VtabOk_J1 (n : Nat) (x0 : Vtab) : Option (Bool) :=
  ((spec_VtabOk_L3 n n x0 0).bind fun o => match o with | .inl _ => (spec_VtabOk_J2 n) | .inr r => some r)
def spec_VtabOk_L4 (n : Nat) : Nat → Vtab → Int → Int → Option ((Unit) ⊕ (Bool))
  | 0,_,_,_ => none
  | mo8 + 1,x0,x1,y3 => (bif (decide (y3 < (x0.Rows.length : Int))) then ((idx x0.Rows y3).bind fun v9 => ((spec_l1InF n v9.Id 1 99).bind fun r10 => (bif (!r10) then (some (Sum.inr false)) else ((spec_l1InF n v9.Members 0 (IntKind.wrap .i64 ((IntKind.wrap .i64 (1 * 2 ^ min (((IntKind.wrap .u64 x1) : Int)).toNat (IntKind.bits .i64))) - 1))).bind fun r11 => (bif (!r11) then (some (Sum.inr false)) else ((spec_l1InF n v9.Bare 0 (IntKind.wrap .i64 ((IntKind.wrap .i64 (1 * 2 ^ min (((IntKind.wrap .u64 x1) : Int)).toNat (IntKind.bits .i64))) - 1))).bind fun r12 => (bif (!r12) then (some (Sum.inr false)) else (bif ((IntKind.wrap .i64 (BitVec.ofInt (IntKind.bits .i64) v9.Bare &&& BitVec.ofInt (IntKind.bits .i64) v9.Members).toNat) != v9.Bare) then (some (Sum.inr false)) else (bif (decide (y3 > 0)) then ((idx x0.Rows (IntKind.wrap .i64 (y3 - 1))).bind fun v13 => (bif (decide (v13.Id ≥ v9.Id)) then (some (Sum.inr false)) else (spec_VtabOk_L4 n mo8 x0 x1 (IntKind.wrap .i64 (y3 + 1))))) else (spec_VtabOk_L4 n mo8 x0 x1 (IntKind.wrap .i64 (y3 + 1)))))))))))) else (some (Sum.inl ())))
def spec_VtabOkF (n : Nat) (x0 : Vtab) (x1 : Int) : Option (Bool) :=
  ((spec_l1InF n x1 1 6).bind fun r1 => (bif (!r1) then (some false) else (bif ((x0.Pvid.length : Int) != x1) then (some false) else (bif (decide ((x0.Rows.length : Int) > 6)) then (some false) else (bif (decide ((0 : Int) ≤ (IntKind.wrap .u64 x1))) then ((spec_VtabOk_L4 n n x0 x1 0).bind fun o => match o with | .inl _ => (spec_VtabOk_J1 n x0) | .inr r => some r) else none)))))
def T41x8 : Tab := ⟨44,[0,1,2,4,12,16,48,16,208,272,528,1280,2048,6144,2048,26624,34816,67584,163840,262144,786432,262144,2359296,5505024,262144,17039360,42205184,67371008,134479872,268435456,805306368,1342177280,2147483648,6442450944,2147483648,19327352832,45097156608,70866960384,139586437120,2147483648,551903297536,1376537018368,2201439174656,4398314946560],[0,1,2,4,8,16,48,16,208,272,528,1024,2048,6144,2048,26624,34816,67584,131072,262144,786432,262144,2359296,5505024,262144,17039360,42205184,67371008,134217728,268435456,805306368,1342177280,2147483648,6442450944,2147483648,19327352832,45097156608,70866960384,139586437120,2147483648,551903297536,1376537018368,2201439174656,4398314946560],[0,1,3,7,15,31,63,31,255,511,1023,2047,4095,8191,4095,32767,65535,131071,262143,524287,1048575,524287,2621439,8388607,524287,17301503,67108863,134217727,268435455,536870911,1073741823,2147483647,4294967295,8589934591,4294967295,21474836479,68719476735,137438953471,274877906943,4294967295,554050781183,2199023255551,4398046511103,8796093022207]⟩
noncomputable abbrev G41 (k : Nat) := Rg Try.f41 k
noncomputable abbrev D41 (k : Nat) := Rd Try.f41 k
theorem K41x8 : tabOk (rg Try.f41 8) T41x8 = true := kr
def T41x13 : Tab := ⟨8,[0,0,2,0,12,16,33,64],[0,0,2,0,12,16,33,64],[0,0,2,0,14,30,63,127]⟩
theorem K41x13 : tabOk (rg Try.f41 13) T41x13 = true := kr
theorem spec_VtabOk_D1 (n : Nat) (y3 : Int) (v9 : Vrow) (r12 : Bool) (x1 : Int) (r11 : Bool) (r10 : Bool) (x0 : Vtab) (h11 : (decide (y3 > 0)) = false) (cx : Cx) : AT Try.prog cx (rg Try.f41 8) [⟨[],3,65,66⟩,⟨[],3,62,63⟩,⟨[],3,60,61⟩,⟨[15],3,53,54⟩,⟨[8,15],3,46,47⟩,⟨[2,8,15],3,41,42⟩] 15 [28,27,26,25,24,23,22,21,20,19,18,17,16,15,14,13,12,11,10,9,8,7,6,5,4,3,2,1,0] ⟨100,0,[sB 69 false,sB 68 false,sB 67 false,sI 66 v9.Bare,sA 65 7 3 2,sI 64 (IntKind.wrap .i64 (BitVec.ofInt (IntKind.bits .i64) v9.Bare &&& BitVec.ofInt (IntKind.bits .i64) v9.Members).toNat),sI 63 v9.Members,sA 62 7 3 1,sI 61 v9.Bare,sA 60 7 3 2,sB 59 false,sB 58 false,sB 57 false,sB 56 r12,sI 55 (IntKind.wrap .i64 ((IntKind.wrap .i64 (1 * 2 ^ min (((IntKind.wrap .u64 x1) : Int)).toNat (IntKind.bits .i64))) - 1)),sI 54 v9.Bare,sA 53 7 3 2,sB 52 false,sB 51 false,sB 50 false,sB 49 r11,sI 48 (IntKind.wrap .i64 ((IntKind.wrap .i64 (1 * 2 ^ min (((IntKind.wrap .u64 x1) : Int)).toNat (IntKind.bits .i64))) - 1)),sI 47 v9.Members,sA 46 7 3 1,sB 45 false,sB 44 false,sB 43 r10,sI 42 v9.Id,sA 41 7 3 0,sA 7 7 3 0,sI 6 y3,sI 5 (IntKind.wrap .i64 ((IntKind.wrap .i64 (1 * 2 ^ min (((IntKind.wrap .u64 x1) : Int)).toNat (IntKind.bits .i64))) - 1)),sA 2 2 2 0],[(7,(Vrow.row v9)),(2,(CV.frzRow (Vtab.row x0)))]⟩ (fun s => s = ⟨100,0,[sB 84 false,sI 6 y3,sI 5 (IntKind.wrap .i64 ((IntKind.wrap .i64 (1 * 2 ^ min (((IntKind.wrap .u64 x1) : Int)).toNat (IntKind.bits .i64))) - 1)),sA 2 2 2 0],[(2,(CV.frzRow (Vtab.row x0)))]⟩) := by
 refine mU tOk K41x8 [(29,[]),(30,[]),(31,[])] 12 [⟨[],3,65,66⟩,⟨[],3,62,63⟩,⟨[],3,60,61⟩,⟨[15],3,53,54⟩,⟨[8,15],3,46,47⟩,⟨[2,8,15],3,41,42⟩] [31,30,29,28,27,26,25,24,23,22,21,20,19,18,17,16,15,14,13,12,11,10,9,8,7,6,5,4,3,2,1,0] rfl kr (fun cx => ?_)
 refine aT ⟨100,0,[sB 72 (decide (y3 > 0)),sB 71 (decide (y3 > 0)),sI 70 y3,sB 69 false,sB 68 false,sB 67 false,sI 66 v9.Bare,sA 65 7 3 2,sI 64 (IntKind.wrap .i64 (BitVec.ofInt (IntKind.bits .i64) v9.Bare &&& BitVec.ofInt (IntKind.bits .i64) v9.Members).toNat),sI 63 v9.Members,sA 62 7 3 1,sI 61 v9.Bare,sA 60 7 3 2,sB 59 false,sB 58 false,sB 57 false,sB 56 r12,sI 55 (IntKind.wrap .i64 ((IntKind.wrap .i64 (1 * 2 ^ min (((IntKind.wrap .u64 x1) : Int)).toNat (IntKind.bits .i64))) - 1)),sI 54 v9.Bare,sA 53 7 3 2,sB 52 false,sB 51 false,sB 50 false,sB 49 r11,sI 48 (IntKind.wrap .i64 ((IntKind.wrap .i64 (1 * 2 ^ min (((IntKind.wrap .u64 x1) : Int)).toNat (IntKind.bits .i64))) - 1)),sI 47 v9.Members,sA 46 7 3 1,sB 45 false,sB 44 false,sB 43 r10,sI 42 v9.Id,sA 41 7 3 0,sA 7 7 3 0,sI 6 y3,sI 5 (IntKind.wrap .i64 ((IntKind.wrap .i64 (1 * 2 ^ min (((IntKind.wrap .u64 x1) : Int)).toNat (IntKind.bits .i64))) - 1)),sA 2 2 2 0],[(7,(Vrow.row v9)),(2,(CV.frzRow (Vtab.row x0)))]⟩ kr ?_
 rw [h11]
 refine mU tOk K41x8 [(32,[]),(33,[]),(34,[]),(35,[]),(36,[]),(37,[]),(38,[]),(39,[]),(40,[]),(41,[]),(42,[]),(43,[])] 0 [⟨[],3,65,66⟩,⟨[],3,62,63⟩,⟨[],3,60,61⟩,⟨[15],3,53,54⟩,⟨[8,15],3,46,47⟩,⟨[2,8,15],3,41,42⟩] [43,42,41,40,39,38,37,36,35,34,33,32,31,30,29,28,27,26,25,24,23,22,21,20,19,18,17,16,15,14,13,12,11,10,9,8,7,6,5,4,3,2,1,0] rfl kr (fun cx => ?_)
 exact mD K41x8 [84,6,5,2] [2] _ kr kr rfl
theorem spec_VtabOk_D2 (n : Nat) (v9 : Vrow) (r10 : Bool) (y3 : Int) (x1 : Int) (x0 : Vtab) (r11 : Bool) (r12 : Bool) (h7 : (!r10) = false) (h8 : (!r11) = false) (h9 : (!r12) = false) (er10 : (spec_l1InF n v9.Id 1 99) = some r10) (er11 : (spec_l1InF n v9.Members 0 (IntKind.wrap .i64 ((IntKind.wrap .i64 (1 * 2 ^ min (((IntKind.wrap .u64 x1) : Int)).toNat (IntKind.bits .i64))) - 1))) = some r11) (er12 : (spec_l1InF n v9.Bare 0 (IntKind.wrap .i64 ((IntKind.wrap .i64 (1 * 2 ^ min (((IntKind.wrap .u64 x1) : Int)).toNat (IntKind.bits .i64))) - 1))) = some r12) (h10 : ((IntKind.wrap .i64 (BitVec.ofInt (IntKind.bits .i64) v9.Bare &&& BitVec.ofInt (IntKind.bits .i64) v9.Members).toNat) != v9.Bare) = false) (h11 : (decide (y3 > 0)) = false) (cx : Cx) : AT Try.prog cx (rg Try.f41 8) [] 44 [] ⟨100,0,[sA 7 7 3 0,sI 6 y3,sI 5 (IntKind.wrap .i64 ((IntKind.wrap .i64 (1 * 2 ^ min (((IntKind.wrap .u64 x1) : Int)).toNat (IntKind.bits .i64))) - 1)),sA 2 2 2 0],[(7,(Vrow.row v9)),(2,(CV.frzRow (Vtab.row x0)))]⟩ (fun s => s = ⟨100,0,[sB 84 false,sI 6 y3,sI 5 (IntKind.wrap .i64 ((IntKind.wrap .i64 (1 * 2 ^ min (((IntKind.wrap .u64 x1) : Int)).toNat (IntKind.bits .i64))) - 1)),sA 2 2 2 0],[(2,(CV.frzRow (Vtab.row x0)))]⟩) := by
 refine mU tOk K41x8 [(0,[]),(1,[2,8,15])] 42 [⟨[2,8,15],3,41,42⟩] [1,0] rfl kr (fun cx => ?_)
 refine mB1 tOk K41x8 2 kr kr ?_
 refine lV tOk [.rd,.rd,.rd] [] (spec_l1In n v9.Id 1 99 r10 er10) kr kr kr kr (.inl rfl) ?_
 refine lF kr kr kr ?_
 refine mU tOk K41x8 [(3,[]),(4,[])] 39 [⟨[2,8,15],3,41,42⟩] [4,3,2,1,0] rfl kr (fun cx => ?_)
 refine aT ⟨100,0,[sB 45 (!r10),sB 44 (!r10),sB 43 r10,sI 42 v9.Id,sA 41 7 3 0,sA 7 7 3 0,sI 6 y3,sI 5 (IntKind.wrap .i64 ((IntKind.wrap .i64 (1 * 2 ^ min (((IntKind.wrap .u64 x1) : Int)).toNat (IntKind.bits .i64))) - 1)),sA 2 2 2 0],[(7,(Vrow.row v9)),(2,(CV.frzRow (Vtab.row x0)))]⟩ kr ?_
 rw [h7]
 refine mU tOk K41x8 [(5,[]),(6,[8,15]),(7,[])] 36 [⟨[8,15],3,46,47⟩,⟨[2,8,15],3,41,42⟩] [7,6,5,4,3,2,1,0] rfl kr (fun cx => ?_)
 refine mB1 tOk K41x8 8 kr kr ?_
 refine lV tOk [.rd,.rd,.rd] [] (spec_l1In n v9.Members 0 (IntKind.wrap .i64 ((IntKind.wrap .i64 (1 * 2 ^ min (((IntKind.wrap .u64 x1) : Int)).toNat (IntKind.bits .i64))) - 1)) r11 er11) kr kr kr kr (.inl rfl) ?_
 refine lF kr kr kr ?_
 refine mU tOk K41x8 [(9,[]),(10,[]),(11,[])] 32 [⟨[8,15],3,46,47⟩,⟨[2,8,15],3,41,42⟩] [11,10,9,8,7,6,5,4,3,2,1,0] rfl kr (fun cx => ?_)
 refine aT ⟨100,0,[sB 52 (!r11),sB 51 (!r11),sB 50 (!r11),sB 49 r11,sI 48 (IntKind.wrap .i64 ((IntKind.wrap .i64 (1 * 2 ^ min (((IntKind.wrap .u64 x1) : Int)).toNat (IntKind.bits .i64))) - 1)),sI 47 v9.Members,sA 46 7 3 1,sB 45 false,sB 44 false,sB 43 r10,sI 42 v9.Id,sA 41 7 3 0,sA 7 7 3 0,sI 6 y3,sI 5 (IntKind.wrap .i64 ((IntKind.wrap .i64 (1 * 2 ^ min (((IntKind.wrap .u64 x1) : Int)).toNat (IntKind.bits .i64))) - 1)),sA 2 2 2 0],[(7,(Vrow.row v9)),(2,(CV.frzRow (Vtab.row x0)))]⟩ kr ?_
 rw [h8]
 refine mU tOk K41x8 [(12,[]),(13,[15]),(14,[])] 29 [⟨[15],3,53,54⟩,⟨[8,15],3,46,47⟩,⟨[2,8,15],3,41,42⟩] [14,13,12,11,10,9,8,7,6,5,4,3,2,1,0] rfl kr (fun cx => ?_)
 refine mB1 tOk K41x8 15 kr kr ?_
 refine lV tOk [.rd,.rd,.rd] [] (spec_l1In n v9.Bare 0 (IntKind.wrap .i64 ((IntKind.wrap .i64 (1 * 2 ^ min (((IntKind.wrap .u64 x1) : Int)).toNat (IntKind.bits .i64))) - 1)) r12 er12) kr kr kr kr (.inl rfl) ?_
 refine lF kr kr kr ?_
 refine mU tOk K41x8 [(16,[]),(17,[]),(18,[])] 25 [⟨[15],3,53,54⟩,⟨[8,15],3,46,47⟩,⟨[2,8,15],3,41,42⟩] [18,17,16,15,14,13,12,11,10,9,8,7,6,5,4,3,2,1,0] rfl kr (fun cx => ?_)
 refine aT ⟨100,0,[sB 59 (!r12),sB 58 (!r12),sB 57 (!r12),sB 56 r12,sI 55 (IntKind.wrap .i64 ((IntKind.wrap .i64 (1 * 2 ^ min (((IntKind.wrap .u64 x1) : Int)).toNat (IntKind.bits .i64))) - 1)),sI 54 v9.Bare,sA 53 7 3 2,sB 52 false,sB 51 false,sB 50 false,sB 49 r11,sI 48 (IntKind.wrap .i64 ((IntKind.wrap .i64 (1 * 2 ^ min (((IntKind.wrap .u64 x1) : Int)).toNat (IntKind.bits .i64))) - 1)),sI 47 v9.Members,sA 46 7 3 1,sB 45 false,sB 44 false,sB 43 r10,sI 42 v9.Id,sA 41 7 3 0,sA 7 7 3 0,sI 6 y3,sI 5 (IntKind.wrap .i64 ((IntKind.wrap .i64 (1 * 2 ^ min (((IntKind.wrap .u64 x1) : Int)).toNat (IntKind.bits .i64))) - 1)),sA 2 2 2 0],[(7,(Vrow.row v9)),(2,(CV.frzRow (Vtab.row x0)))]⟩ kr ?_
 rw [h9]
 refine mU tOk K41x8 [(19,[]),(20,[]),(21,[]),(22,[]),(23,[]),(24,[]),(25,[]),(26,[]),(27,[]),(28,[])] 15 [⟨[],3,65,66⟩,⟨[],3,62,63⟩,⟨[],3,60,61⟩,⟨[15],3,53,54⟩,⟨[8,15],3,46,47⟩,⟨[2,8,15],3,41,42⟩] [28,27,26,25,24,23,22,21,20,19,18,17,16,15,14,13,12,11,10,9,8,7,6,5,4,3,2,1,0] rfl kr (fun cx => ?_)
 refine aT ⟨100,0,[sB 69 ((IntKind.wrap .i64 (BitVec.ofInt (IntKind.bits .i64) v9.Bare &&& BitVec.ofInt (IntKind.bits .i64) v9.Members).toNat) != v9.Bare),sB 68 ((IntKind.wrap .i64 (BitVec.ofInt (IntKind.bits .i64) v9.Bare &&& BitVec.ofInt (IntKind.bits .i64) v9.Members).toNat) != v9.Bare),sB 67 ((IntKind.wrap .i64 (BitVec.ofInt (IntKind.bits .i64) v9.Bare &&& BitVec.ofInt (IntKind.bits .i64) v9.Members).toNat) != v9.Bare),sI 66 v9.Bare,sA 65 7 3 2,sI 64 (IntKind.wrap .i64 (BitVec.ofInt (IntKind.bits .i64) v9.Bare &&& BitVec.ofInt (IntKind.bits .i64) v9.Members).toNat),sI 63 v9.Members,sA 62 7 3 1,sI 61 v9.Bare,sA 60 7 3 2,sB 59 false,sB 58 false,sB 57 false,sB 56 r12,sI 55 (IntKind.wrap .i64 ((IntKind.wrap .i64 (1 * 2 ^ min (((IntKind.wrap .u64 x1) : Int)).toNat (IntKind.bits .i64))) - 1)),sI 54 v9.Bare,sA 53 7 3 2,sB 52 false,sB 51 false,sB 50 false,sB 49 r11,sI 48 (IntKind.wrap .i64 ((IntKind.wrap .i64 (1 * 2 ^ min (((IntKind.wrap .u64 x1) : Int)).toNat (IntKind.bits .i64))) - 1)),sI 47 v9.Members,sA 46 7 3 1,sB 45 false,sB 44 false,sB 43 r10,sI 42 v9.Id,sA 41 7 3 0,sA 7 7 3 0,sI 6 y3,sI 5 (IntKind.wrap .i64 ((IntKind.wrap .i64 (1 * 2 ^ min (((IntKind.wrap .u64 x1) : Int)).toNat (IntKind.bits .i64))) - 1)),sA 2 2 2 0],[(7,(Vrow.row v9)),(2,(CV.frzRow (Vtab.row x0)))]⟩ kr ?_
 rw [h10]
 refine aT ⟨100,0,[sB 69 false,sB 68 false,sB 67 false,sI 66 v9.Bare,sA 65 7 3 2,sI 64 (IntKind.wrap .i64 (BitVec.ofInt (IntKind.bits .i64) v9.Bare &&& BitVec.ofInt (IntKind.bits .i64) v9.Members).toNat),sI 63 v9.Members,sA 62 7 3 1,sI 61 v9.Bare,sA 60 7 3 2,sB 59 false,sB 58 false,sB 57 false,sB 56 r12,sI 55 (IntKind.wrap .i64 ((IntKind.wrap .i64 (1 * 2 ^ min (((IntKind.wrap .u64 x1) : Int)).toNat (IntKind.bits .i64))) - 1)),sI 54 v9.Bare,sA 53 7 3 2,sB 52 false,sB 51 false,sB 50 false,sB 49 r11,sI 48 (IntKind.wrap .i64 ((IntKind.wrap .i64 (1 * 2 ^ min (((IntKind.wrap .u64 x1) : Int)).toNat (IntKind.bits .i64))) - 1)),sI 47 v9.Members,sA 46 7 3 1,sB 45 false,sB 44 false,sB 43 r10,sI 42 v9.Id,sA 41 7 3 0,sA 7 7 3 0,sI 6 y3,sI 5 (IntKind.wrap .i64 ((IntKind.wrap .i64 (1 * 2 ^ min (((IntKind.wrap .u64 x1) : Int)).toNat (IntKind.bits .i64))) - 1)),sA 2 2 2 0],[(7,(Vrow.row v9)),(2,(CV.frzRow (Vtab.row x0)))]⟩ kr ?_
 exact spec_VtabOk_D1 n y3 v9 r12 x1 r11 r10 x0 h11 cx
theorem spec_VtabOk_D3 (n : Nat) (y3 : Int) (v9 : Vrow) (r12 : Bool) (x1 : Int) (r11 : Bool) (r10 : Bool) (x0 : Vtab) (v13 : Vrow) (h11 : (decide (y3 > 0)) = true) (ev13 : (idx x0.Rows (IntKind.wrap .i64 (y3 - 1))) = some v13) (cx : Cx) : AT Try.prog cx (rg Try.f41 8) [⟨[],3,65,66⟩,⟨[],3,62,63⟩,⟨[],3,60,61⟩,⟨[15],3,53,54⟩,⟨[8,15],3,46,47⟩,⟨[2,8,15],3,41,42⟩] 15 [28,27,26,25,24,23,22,21,20,19,18,17,16,15,14,13,12,11,10,9,8,7,6,5,4,3,2,1,0] ⟨100,0,[sB 69 false,sB 68 false,sB 67 false,sI 66 v9.Bare,sA 65 7 3 2,sI 64 (IntKind.wrap .i64 (BitVec.ofInt (IntKind.bits .i64) v9.Bare &&& BitVec.ofInt (IntKind.bits .i64) v9.Members).toNat),sI 63 v9.Members,sA 62 7 3 1,sI 61 v9.Bare,sA 60 7 3 2,sB 59 false,sB 58 false,sB 57 false,sB 56 r12,sI 55 (IntKind.wrap .i64 ((IntKind.wrap .i64 (1 * 2 ^ min (((IntKind.wrap .u64 x1) : Int)).toNat (IntKind.bits .i64))) - 1)),sI 54 v9.Bare,sA 53 7 3 2,sB 52 false,sB 51 false,sB 50 false,sB 49 r11,sI 48 (IntKind.wrap .i64 ((IntKind.wrap .i64 (1 * 2 ^ min (((IntKind.wrap .u64 x1) : Int)).toNat (IntKind.bits .i64))) - 1)),sI 47 v9.Members,sA 46 7 3 1,sB 45 false,sB 44 false,sB 43 r10,sI 42 v9.Id,sA 41 7 3 0,sA 7 7 3 0,sI 6 y3,sI 5 (IntKind.wrap .i64 ((IntKind.wrap .i64 (1 * 2 ^ min (((IntKind.wrap .u64 x1) : Int)).toNat (IntKind.bits .i64))) - 1)),sA 2 2 2 0],[(7,(Vrow.row v9)),(2,(CV.frzRow (Vtab.row x0)))]⟩ (fun s => s = ⟨100,0,[sB 84 (decide (v13.Id ≥ v9.Id)),sI 6 y3,sI 5 (IntKind.wrap .i64 ((IntKind.wrap .i64 (1 * 2 ^ min (((IntKind.wrap .u64 x1) : Int)).toNat (IntKind.bits .i64))) - 1)),sA 2 2 2 0],[(2,(CV.frzRow (Vtab.row x0)))]⟩) := by
 refine mU tOk K41x8 [(29,[]),(30,[]),(31,[])] 12 [⟨[],3,65,66⟩,⟨[],3,62,63⟩,⟨[],3,60,61⟩,⟨[15],3,53,54⟩,⟨[8,15],3,46,47⟩,⟨[2,8,15],3,41,42⟩] [31,30,29,28,27,26,25,24,23,22,21,20,19,18,17,16,15,14,13,12,11,10,9,8,7,6,5,4,3,2,1,0] rfl kr (fun cx => ?_)
 refine aT ⟨100,0,[sB 72 (decide (y3 > 0)),sB 71 (decide (y3 > 0)),sI 70 y3,sB 69 false,sB 68 false,sB 67 false,sI 66 v9.Bare,sA 65 7 3 2,sI 64 (IntKind.wrap .i64 (BitVec.ofInt (IntKind.bits .i64) v9.Bare &&& BitVec.ofInt (IntKind.bits .i64) v9.Members).toNat),sI 63 v9.Members,sA 62 7 3 1,sI 61 v9.Bare,sA 60 7 3 2,sB 59 false,sB 58 false,sB 57 false,sB 56 r12,sI 55 (IntKind.wrap .i64 ((IntKind.wrap .i64 (1 * 2 ^ min (((IntKind.wrap .u64 x1) : Int)).toNat (IntKind.bits .i64))) - 1)),sI 54 v9.Bare,sA 53 7 3 2,sB 52 false,sB 51 false,sB 50 false,sB 49 r11,sI 48 (IntKind.wrap .i64 ((IntKind.wrap .i64 (1 * 2 ^ min (((IntKind.wrap .u64 x1) : Int)).toNat (IntKind.bits .i64))) - 1)),sI 47 v9.Members,sA 46 7 3 1,sB 45 false,sB 44 false,sB 43 r10,sI 42 v9.Id,sA 41 7 3 0,sA 7 7 3 0,sI 6 y3,sI 5 (IntKind.wrap .i64 ((IntKind.wrap .i64 (1 * 2 ^ min (((IntKind.wrap .u64 x1) : Int)).toNat (IntKind.bits .i64))) - 1)),sA 2 2 2 0],[(7,(Vrow.row v9)),(2,(CV.frzRow (Vtab.row x0)))]⟩ kr ?_
 rw [h11]
 refine mU tOk K41x8 [(32,[]),(33,[]),(34,[]),(35,[])] 8 [⟨[],26,73,74⟩,⟨[],3,65,66⟩,⟨[],3,62,63⟩,⟨[],3,60,61⟩,⟨[15],3,53,54⟩,⟨[8,15],3,46,47⟩,⟨[2,8,15],3,41,42⟩] [35,34,33,32,31,30,29,28,27,26,25,24,23,22,21,20,19,18,17,16,15,14,13,12,11,10,9,8,7,6,5,4,3,2,1,0] rfl kr (fun cx => ?_)
 refine aI tOk 36 26 0 74 76 77 (some (31,true)) ⟨(.box 2),[(0,0)],0,false,3,(CV.frzEs (x0.Rows.map Vrow.row))⟩ (IntKind.wrap .i64 (y3 - 1)) (Vrow.row v13) _ kr (oM K41x8 kr) (dM K41x8 kr) kr kr kr rfl (idx_isF ev13) rfl (fun cx => ?_)
 refine mU tOk K41x8 [(37,[]),(38,[]),(39,[]),(40,[]),(41,[]),(42,[]),(43,[])] 0 [⟨[],3,80,81⟩,⟨[],26,73,74⟩,⟨[],3,65,66⟩,⟨[],3,62,63⟩,⟨[],3,60,61⟩,⟨[15],3,53,54⟩,⟨[8,15],3,46,47⟩,⟨[2,8,15],3,41,42⟩] [43,42,41,40,39,38,37,36,35,34,33,32,31,30,29,28,27,26,25,24,23,22,21,20,19,18,17,16,15,14,13,12,11,10,9,8,7,6,5,4,3,2,1,0] rfl kr (fun cx => ?_)
 exact mD K41x8 [84,6,5,2] [2] _ kr kr rfl
theorem spec_VtabOk_D4 (n : Nat) (v9 : Vrow) (r10 : Bool) (y3 : Int) (x1 : Int) (x0 : Vtab) (r11 : Bool) (r12 : Bool) (v13 : Vrow) (h7 : (!r10) = false) (h8 : (!r11) = false) (h9 : (!r12) = false) (er10 : (spec_l1InF n v9.Id 1 99) = some r10) (er11 : (spec_l1InF n v9.Members 0 (IntKind.wrap .i64 ((IntKind.wrap .i64 (1 * 2 ^ min (((IntKind.wrap .u64 x1) : Int)).toNat (IntKind.bits .i64))) - 1))) = some r11) (er12 : (spec_l1InF n v9.Bare 0 (IntKind.wrap .i64 ((IntKind.wrap .i64 (1 * 2 ^ min (((IntKind.wrap .u64 x1) : Int)).toNat (IntKind.bits .i64))) - 1))) = some r12) (h10 : ((IntKind.wrap .i64 (BitVec.ofInt (IntKind.bits .i64) v9.Bare &&& BitVec.ofInt (IntKind.bits .i64) v9.Members).toNat) != v9.Bare) = false) (h11 : (decide (y3 > 0)) = true) (ev13 : (idx x0.Rows (IntKind.wrap .i64 (y3 - 1))) = some v13) (cx : Cx) : AT Try.prog cx (rg Try.f41 8) [] 44 [] ⟨100,0,[sA 7 7 3 0,sI 6 y3,sI 5 (IntKind.wrap .i64 ((IntKind.wrap .i64 (1 * 2 ^ min (((IntKind.wrap .u64 x1) : Int)).toNat (IntKind.bits .i64))) - 1)),sA 2 2 2 0],[(7,(Vrow.row v9)),(2,(CV.frzRow (Vtab.row x0)))]⟩ (fun s => s = ⟨100,0,[sB 84 (decide (v13.Id ≥ v9.Id)),sI 6 y3,sI 5 (IntKind.wrap .i64 ((IntKind.wrap .i64 (1 * 2 ^ min (((IntKind.wrap .u64 x1) : Int)).toNat (IntKind.bits .i64))) - 1)),sA 2 2 2 0],[(2,(CV.frzRow (Vtab.row x0)))]⟩) := by
 refine mU tOk K41x8 [(0,[]),(1,[2,8,15])] 42 [⟨[2,8,15],3,41,42⟩] [1,0] rfl kr (fun cx => ?_)
 refine mB1 tOk K41x8 2 kr kr ?_
 refine lV tOk [.rd,.rd,.rd] [] (spec_l1In n v9.Id 1 99 r10 er10) kr kr kr kr (.inl rfl) ?_
 refine lF kr kr kr ?_
 refine mU tOk K41x8 [(3,[]),(4,[])] 39 [⟨[2,8,15],3,41,42⟩] [4,3,2,1,0] rfl kr (fun cx => ?_)
 refine aT ⟨100,0,[sB 45 (!r10),sB 44 (!r10),sB 43 r10,sI 42 v9.Id,sA 41 7 3 0,sA 7 7 3 0,sI 6 y3,sI 5 (IntKind.wrap .i64 ((IntKind.wrap .i64 (1 * 2 ^ min (((IntKind.wrap .u64 x1) : Int)).toNat (IntKind.bits .i64))) - 1)),sA 2 2 2 0],[(7,(Vrow.row v9)),(2,(CV.frzRow (Vtab.row x0)))]⟩ kr ?_
 rw [h7]
 refine mU tOk K41x8 [(5,[]),(6,[8,15]),(7,[])] 36 [⟨[8,15],3,46,47⟩,⟨[2,8,15],3,41,42⟩] [7,6,5,4,3,2,1,0] rfl kr (fun cx => ?_)
 refine mB1 tOk K41x8 8 kr kr ?_
 refine lV tOk [.rd,.rd,.rd] [] (spec_l1In n v9.Members 0 (IntKind.wrap .i64 ((IntKind.wrap .i64 (1 * 2 ^ min (((IntKind.wrap .u64 x1) : Int)).toNat (IntKind.bits .i64))) - 1)) r11 er11) kr kr kr kr (.inl rfl) ?_
 refine lF kr kr kr ?_
 refine mU tOk K41x8 [(9,[]),(10,[]),(11,[])] 32 [⟨[8,15],3,46,47⟩,⟨[2,8,15],3,41,42⟩] [11,10,9,8,7,6,5,4,3,2,1,0] rfl kr (fun cx => ?_)
 refine aT ⟨100,0,[sB 52 (!r11),sB 51 (!r11),sB 50 (!r11),sB 49 r11,sI 48 (IntKind.wrap .i64 ((IntKind.wrap .i64 (1 * 2 ^ min (((IntKind.wrap .u64 x1) : Int)).toNat (IntKind.bits .i64))) - 1)),sI 47 v9.Members,sA 46 7 3 1,sB 45 false,sB 44 false,sB 43 r10,sI 42 v9.Id,sA 41 7 3 0,sA 7 7 3 0,sI 6 y3,sI 5 (IntKind.wrap .i64 ((IntKind.wrap .i64 (1 * 2 ^ min (((IntKind.wrap .u64 x1) : Int)).toNat (IntKind.bits .i64))) - 1)),sA 2 2 2 0],[(7,(Vrow.row v9)),(2,(CV.frzRow (Vtab.row x0)))]⟩ kr ?_
 rw [h8]
 refine mU tOk K41x8 [(12,[]),(13,[15]),(14,[])] 29 [⟨[15],3,53,54⟩,⟨[8,15],3,46,47⟩,⟨[2,8,15],3,41,42⟩] [14,13,12,11,10,9,8,7,6,5,4,3,2,1,0] rfl kr (fun cx => ?_)
 refine mB1 tOk K41x8 15 kr kr ?_
 refine lV tOk [.rd,.rd,.rd] [] (spec_l1In n v9.Bare 0 (IntKind.wrap .i64 ((IntKind.wrap .i64 (1 * 2 ^ min (((IntKind.wrap .u64 x1) : Int)).toNat (IntKind.bits .i64))) - 1)) r12 er12) kr kr kr kr (.inl rfl) ?_
 refine lF kr kr kr ?_
 refine mU tOk K41x8 [(16,[]),(17,[]),(18,[])] 25 [⟨[15],3,53,54⟩,⟨[8,15],3,46,47⟩,⟨[2,8,15],3,41,42⟩] [18,17,16,15,14,13,12,11,10,9,8,7,6,5,4,3,2,1,0] rfl kr (fun cx => ?_)
 refine aT ⟨100,0,[sB 59 (!r12),sB 58 (!r12),sB 57 (!r12),sB 56 r12,sI 55 (IntKind.wrap .i64 ((IntKind.wrap .i64 (1 * 2 ^ min (((IntKind.wrap .u64 x1) : Int)).toNat (IntKind.bits .i64))) - 1)),sI 54 v9.Bare,sA 53 7 3 2,sB 52 false,sB 51 false,sB 50 false,sB 49 r11,sI 48 (IntKind.wrap .i64 ((IntKind.wrap .i64 (1 * 2 ^ min (((IntKind.wrap .u64 x1) : Int)).toNat (IntKind.bits .i64))) - 1)),sI 47 v9.Members,sA 46 7 3 1,sB 45 false,sB 44 false,sB 43 r10,sI 42 v9.Id,sA 41 7 3 0,sA 7 7 3 0,sI 6 y3,sI 5 (IntKind.wrap .i64 ((IntKind.wrap .i64 (1 * 2 ^ min (((IntKind.wrap .u64 x1) : Int)).toNat (IntKind.bits .i64))) - 1)),sA 2 2 2 0],[(7,(Vrow.row v9)),(2,(CV.frzRow (Vtab.row x0)))]⟩ kr ?_
 rw [h9]
 refine mU tOk K41x8 [(19,[]),(20,[]),(21,[]),(22,[]),(23,[]),(24,[]),(25,[]),(26,[]),(27,[]),(28,[])] 15 [⟨[],3,65,66⟩,⟨[],3,62,63⟩,⟨[],3,60,61⟩,⟨[15],3,53,54⟩,⟨[8,15],3,46,47⟩,⟨[2,8,15],3,41,42⟩] [28,27,26,25,24,23,22,21,20,19,18,17,16,15,14,13,12,11,10,9,8,7,6,5,4,3,2,1,0] rfl kr (fun cx => ?_)
 refine aT ⟨100,0,[sB 69 ((IntKind.wrap .i64 (BitVec.ofInt (IntKind.bits .i64) v9.Bare &&& BitVec.ofInt (IntKind.bits .i64) v9.Members).toNat) != v9.Bare),sB 68 ((IntKind.wrap .i64 (BitVec.ofInt (IntKind.bits .i64) v9.Bare &&& BitVec.ofInt (IntKind.bits .i64) v9.Members).toNat) != v9.Bare),sB 67 ((IntKind.wrap .i64 (BitVec.ofInt (IntKind.bits .i64) v9.Bare &&& BitVec.ofInt (IntKind.bits .i64) v9.Members).toNat) != v9.Bare),sI 66 v9.Bare,sA 65 7 3 2,sI 64 (IntKind.wrap .i64 (BitVec.ofInt (IntKind.bits .i64) v9.Bare &&& BitVec.ofInt (IntKind.bits .i64) v9.Members).toNat),sI 63 v9.Members,sA 62 7 3 1,sI 61 v9.Bare,sA 60 7 3 2,sB 59 false,sB 58 false,sB 57 false,sB 56 r12,sI 55 (IntKind.wrap .i64 ((IntKind.wrap .i64 (1 * 2 ^ min (((IntKind.wrap .u64 x1) : Int)).toNat (IntKind.bits .i64))) - 1)),sI 54 v9.Bare,sA 53 7 3 2,sB 52 false,sB 51 false,sB 50 false,sB 49 r11,sI 48 (IntKind.wrap .i64 ((IntKind.wrap .i64 (1 * 2 ^ min (((IntKind.wrap .u64 x1) : Int)).toNat (IntKind.bits .i64))) - 1)),sI 47 v9.Members,sA 46 7 3 1,sB 45 false,sB 44 false,sB 43 r10,sI 42 v9.Id,sA 41 7 3 0,sA 7 7 3 0,sI 6 y3,sI 5 (IntKind.wrap .i64 ((IntKind.wrap .i64 (1 * 2 ^ min (((IntKind.wrap .u64 x1) : Int)).toNat (IntKind.bits .i64))) - 1)),sA 2 2 2 0],[(7,(Vrow.row v9)),(2,(CV.frzRow (Vtab.row x0)))]⟩ kr ?_
 rw [h10]
 refine aT ⟨100,0,[sB 69 false,sB 68 false,sB 67 false,sI 66 v9.Bare,sA 65 7 3 2,sI 64 (IntKind.wrap .i64 (BitVec.ofInt (IntKind.bits .i64) v9.Bare &&& BitVec.ofInt (IntKind.bits .i64) v9.Members).toNat),sI 63 v9.Members,sA 62 7 3 1,sI 61 v9.Bare,sA 60 7 3 2,sB 59 false,sB 58 false,sB 57 false,sB 56 r12,sI 55 (IntKind.wrap .i64 ((IntKind.wrap .i64 (1 * 2 ^ min (((IntKind.wrap .u64 x1) : Int)).toNat (IntKind.bits .i64))) - 1)),sI 54 v9.Bare,sA 53 7 3 2,sB 52 false,sB 51 false,sB 50 false,sB 49 r11,sI 48 (IntKind.wrap .i64 ((IntKind.wrap .i64 (1 * 2 ^ min (((IntKind.wrap .u64 x1) : Int)).toNat (IntKind.bits .i64))) - 1)),sI 47 v9.Members,sA 46 7 3 1,sB 45 false,sB 44 false,sB 43 r10,sI 42 v9.Id,sA 41 7 3 0,sA 7 7 3 0,sI 6 y3,sI 5 (IntKind.wrap .i64 ((IntKind.wrap .i64 (1 * 2 ^ min (((IntKind.wrap .u64 x1) : Int)).toNat (IntKind.bits .i64))) - 1)),sA 2 2 2 0],[(7,(Vrow.row v9)),(2,(CV.frzRow (Vtab.row x0)))]⟩ kr ?_
 exact spec_VtabOk_D3 n y3 v9 r12 x1 r11 r10 x0 v13 h11 ev13 cx
theorem spec_VtabOk_D5 (n : Nat) (v9 : Vrow) (r12 : Bool) (x1 : Int) (r11 : Bool) (r10 : Bool) (y3 : Int) (x0 : Vtab) (cx : Cx) : AT Try.prog cx (rg Try.f41 8) [⟨[],3,65,66⟩,⟨[],3,62,63⟩,⟨[],3,60,61⟩,⟨[15],3,53,54⟩,⟨[8,15],3,46,47⟩,⟨[2,8,15],3,41,42⟩] 15 [28,27,26,25,24,23,22,21,20,19,18,17,16,15,14,13,12,11,10,9,8,7,6,5,4,3,2,1,0] ⟨100,0,[sB 69 true,sB 68 true,sB 67 true,sI 66 v9.Bare,sA 65 7 3 2,sI 64 (IntKind.wrap .i64 (BitVec.ofInt (IntKind.bits .i64) v9.Bare &&& BitVec.ofInt (IntKind.bits .i64) v9.Members).toNat),sI 63 v9.Members,sA 62 7 3 1,sI 61 v9.Bare,sA 60 7 3 2,sB 59 false,sB 58 false,sB 57 false,sB 56 r12,sI 55 (IntKind.wrap .i64 ((IntKind.wrap .i64 (1 * 2 ^ min (((IntKind.wrap .u64 x1) : Int)).toNat (IntKind.bits .i64))) - 1)),sI 54 v9.Bare,sA 53 7 3 2,sB 52 false,sB 51 false,sB 50 false,sB 49 r11,sI 48 (IntKind.wrap .i64 ((IntKind.wrap .i64 (1 * 2 ^ min (((IntKind.wrap .u64 x1) : Int)).toNat (IntKind.bits .i64))) - 1)),sI 47 v9.Members,sA 46 7 3 1,sB 45 false,sB 44 false,sB 43 r10,sI 42 v9.Id,sA 41 7 3 0,sA 7 7 3 0,sI 6 y3,sI 5 (IntKind.wrap .i64 ((IntKind.wrap .i64 (1 * 2 ^ min (((IntKind.wrap .u64 x1) : Int)).toNat (IntKind.bits .i64))) - 1)),sA 2 2 2 0],[(7,(Vrow.row v9)),(2,(CV.frzRow (Vtab.row x0)))]⟩ (fun s => s = ⟨100,0,[sB 84 true,sI 6 y3,sI 5 (IntKind.wrap .i64 ((IntKind.wrap .i64 (1 * 2 ^ min (((IntKind.wrap .u64 x1) : Int)).toNat (IntKind.bits .i64))) - 1)),sA 2 2 2 0],[(2,(CV.frzRow (Vtab.row x0)))]⟩) := by
 refine mU tOk K41x8 [(29,[]),(30,[]),(31,[]),(32,[]),(33,[]),(34,[]),(35,[]),(36,[]),(37,[]),(38,[]),(39,[]),(40,[]),(41,[]),(42,[]),(43,[])] 0 [⟨[],3,65,66⟩,⟨[],3,62,63⟩,⟨[],3,60,61⟩,⟨[15],3,53,54⟩,⟨[8,15],3,46,47⟩,⟨[2,8,15],3,41,42⟩] [43,42,41,40,39,38,37,36,35,34,33,32,31,30,29,28,27,26,25,24,23,22,21,20,19,18,17,16,15,14,13,12,11,10,9,8,7,6,5,4,3,2,1,0] rfl kr (fun cx => ?_)
 exact mD K41x8 [84,6,5,2] [2] _ kr kr rfl
theorem spec_VtabOk_D6 (n : Nat) (v9 : Vrow) (r10 : Bool) (y3 : Int) (x1 : Int) (x0 : Vtab) (r11 : Bool) (r12 : Bool) (h7 : (!r10) = false) (h8 : (!r11) = false) (h9 : (!r12) = false) (er10 : (spec_l1InF n v9.Id 1 99) = some r10) (er11 : (spec_l1InF n v9.Members 0 (IntKind.wrap .i64 ((IntKind.wrap .i64 (1 * 2 ^ min (((IntKind.wrap .u64 x1) : Int)).toNat (IntKind.bits .i64))) - 1))) = some r11) (er12 : (spec_l1InF n v9.Bare 0 (IntKind.wrap .i64 ((IntKind.wrap .i64 (1 * 2 ^ min (((IntKind.wrap .u64 x1) : Int)).toNat (IntKind.bits .i64))) - 1))) = some r12) (h10 : ((IntKind.wrap .i64 (BitVec.ofInt (IntKind.bits .i64) v9.Bare &&& BitVec.ofInt (IntKind.bits .i64) v9.Members).toNat) != v9.Bare) = true) (cx : Cx) : AT Try.prog cx (rg Try.f41 8) [] 44 [] ⟨100,0,[sA 7 7 3 0,sI 6 y3,sI 5 (IntKind.wrap .i64 ((IntKind.wrap .i64 (1 * 2 ^ min (((IntKind.wrap .u64 x1) : Int)).toNat (IntKind.bits .i64))) - 1)),sA 2 2 2 0],[(7,(Vrow.row v9)),(2,(CV.frzRow (Vtab.row x0)))]⟩ (fun s => s = ⟨100,0,[sB 84 true,sI 6 y3,sI 5 (IntKind.wrap .i64 ((IntKind.wrap .i64 (1 * 2 ^ min (((IntKind.wrap .u64 x1) : Int)).toNat (IntKind.bits .i64))) - 1)),sA 2 2 2 0],[(2,(CV.frzRow (Vtab.row x0)))]⟩) := by
 refine mU tOk K41x8 [(0,[]),(1,[2,8,15])] 42 [⟨[2,8,15],3,41,42⟩] [1,0] rfl kr (fun cx => ?_)
 refine mB1 tOk K41x8 2 kr kr ?_
 refine lV tOk [.rd,.rd,.rd] [] (spec_l1In n v9.Id 1 99 r10 er10) kr kr kr kr (.inl rfl) ?_
 refine lF kr kr kr ?_
 refine mU tOk K41x8 [(3,[]),(4,[])] 39 [⟨[2,8,15],3,41,42⟩] [4,3,2,1,0] rfl kr (fun cx => ?_)
 refine aT ⟨100,0,[sB 45 (!r10),sB 44 (!r10),sB 43 r10,sI 42 v9.Id,sA 41 7 3 0,sA 7 7 3 0,sI 6 y3,sI 5 (IntKind.wrap .i64 ((IntKind.wrap .i64 (1 * 2 ^ min (((IntKind.wrap .u64 x1) : Int)).toNat (IntKind.bits .i64))) - 1)),sA 2 2 2 0],[(7,(Vrow.row v9)),(2,(CV.frzRow (Vtab.row x0)))]⟩ kr ?_
 rw [h7]
 refine mU tOk K41x8 [(5,[]),(6,[8,15]),(7,[])] 36 [⟨[8,15],3,46,47⟩,⟨[2,8,15],3,41,42⟩] [7,6,5,4,3,2,1,0] rfl kr (fun cx => ?_)
 refine mB1 tOk K41x8 8 kr kr ?_
 refine lV tOk [.rd,.rd,.rd] [] (spec_l1In n v9.Members 0 (IntKind.wrap .i64 ((IntKind.wrap .i64 (1 * 2 ^ min (((IntKind.wrap .u64 x1) : Int)).toNat (IntKind.bits .i64))) - 1)) r11 er11) kr kr kr kr (.inl rfl) ?_
 refine lF kr kr kr ?_
 refine mU tOk K41x8 [(9,[]),(10,[]),(11,[])] 32 [⟨[8,15],3,46,47⟩,⟨[2,8,15],3,41,42⟩] [11,10,9,8,7,6,5,4,3,2,1,0] rfl kr (fun cx => ?_)
 refine aT ⟨100,0,[sB 52 (!r11),sB 51 (!r11),sB 50 (!r11),sB 49 r11,sI 48 (IntKind.wrap .i64 ((IntKind.wrap .i64 (1 * 2 ^ min (((IntKind.wrap .u64 x1) : Int)).toNat (IntKind.bits .i64))) - 1)),sI 47 v9.Members,sA 46 7 3 1,sB 45 false,sB 44 false,sB 43 r10,sI 42 v9.Id,sA 41 7 3 0,sA 7 7 3 0,sI 6 y3,sI 5 (IntKind.wrap .i64 ((IntKind.wrap .i64 (1 * 2 ^ min (((IntKind.wrap .u64 x1) : Int)).toNat (IntKind.bits .i64))) - 1)),sA 2 2 2 0],[(7,(Vrow.row v9)),(2,(CV.frzRow (Vtab.row x0)))]⟩ kr ?_
 rw [h8]
 refine mU tOk K41x8 [(12,[]),(13,[15]),(14,[])] 29 [⟨[15],3,53,54⟩,⟨[8,15],3,46,47⟩,⟨[2,8,15],3,41,42⟩] [14,13,12,11,10,9,8,7,6,5,4,3,2,1,0] rfl kr (fun cx => ?_)
 refine mB1 tOk K41x8 15 kr kr ?_
 refine lV tOk [.rd,.rd,.rd] [] (spec_l1In n v9.Bare 0 (IntKind.wrap .i64 ((IntKind.wrap .i64 (1 * 2 ^ min (((IntKind.wrap .u64 x1) : Int)).toNat (IntKind.bits .i64))) - 1)) r12 er12) kr kr kr kr (.inl rfl) ?_
 refine lF kr kr kr ?_
 refine mU tOk K41x8 [(16,[]),(17,[]),(18,[])] 25 [⟨[15],3,53,54⟩,⟨[8,15],3,46,47⟩,⟨[2,8,15],3,41,42⟩] [18,17,16,15,14,13,12,11,10,9,8,7,6,5,4,3,2,1,0] rfl kr (fun cx => ?_)
 refine aT ⟨100,0,[sB 59 (!r12),sB 58 (!r12),sB 57 (!r12),sB 56 r12,sI 55 (IntKind.wrap .i64 ((IntKind.wrap .i64 (1 * 2 ^ min (((IntKind.wrap .u64 x1) : Int)).toNat (IntKind.bits .i64))) - 1)),sI 54 v9.Bare,sA 53 7 3 2,sB 52 false,sB 51 false,sB 50 false,sB 49 r11,sI 48 (IntKind.wrap .i64 ((IntKind.wrap .i64 (1 * 2 ^ min (((IntKind.wrap .u64 x1) : Int)).toNat (IntKind.bits .i64))) - 1)),sI 47 v9.Members,sA 46 7 3 1,sB 45 false,sB 44 false,sB 43 r10,sI 42 v9.Id,sA 41 7 3 0,sA 7 7 3 0,sI 6 y3,sI 5 (IntKind.wrap .i64 ((IntKind.wrap .i64 (1 * 2 ^ min (((IntKind.wrap .u64 x1) : Int)).toNat (IntKind.bits .i64))) - 1)),sA 2 2 2 0],[(7,(Vrow.row v9)),(2,(CV.frzRow (Vtab.row x0)))]⟩ kr ?_
 rw [h9]
 refine mU tOk K41x8 [(19,[]),(20,[]),(21,[]),(22,[]),(23,[]),(24,[]),(25,[]),(26,[]),(27,[]),(28,[])] 15 [⟨[],3,65,66⟩,⟨[],3,62,63⟩,⟨[],3,60,61⟩,⟨[15],3,53,54⟩,⟨[8,15],3,46,47⟩,⟨[2,8,15],3,41,42⟩] [28,27,26,25,24,23,22,21,20,19,18,17,16,15,14,13,12,11,10,9,8,7,6,5,4,3,2,1,0] rfl kr (fun cx => ?_)
 refine aT ⟨100,0,[sB 69 ((IntKind.wrap .i64 (BitVec.ofInt (IntKind.bits .i64) v9.Bare &&& BitVec.ofInt (IntKind.bits .i64) v9.Members).toNat) != v9.Bare),sB 68 ((IntKind.wrap .i64 (BitVec.ofInt (IntKind.bits .i64) v9.Bare &&& BitVec.ofInt (IntKind.bits .i64) v9.Members).toNat) != v9.Bare),sB 67 ((IntKind.wrap .i64 (BitVec.ofInt (IntKind.bits .i64) v9.Bare &&& BitVec.ofInt (IntKind.bits .i64) v9.Members).toNat) != v9.Bare),sI 66 v9.Bare,sA 65 7 3 2,sI 64 (IntKind.wrap .i64 (BitVec.ofInt (IntKind.bits .i64) v9.Bare &&& BitVec.ofInt (IntKind.bits .i64) v9.Members).toNat),sI 63 v9.Members,sA 62 7 3 1,sI 61 v9.Bare,sA 60 7 3 2,sB 59 false,sB 58 false,sB 57 false,sB 56 r12,sI 55 (IntKind.wrap .i64 ((IntKind.wrap .i64 (1 * 2 ^ min (((IntKind.wrap .u64 x1) : Int)).toNat (IntKind.bits .i64))) - 1)),sI 54 v9.Bare,sA 53 7 3 2,sB 52 false,sB 51 false,sB 50 false,sB 49 r11,sI 48 (IntKind.wrap .i64 ((IntKind.wrap .i64 (1 * 2 ^ min (((IntKind.wrap .u64 x1) : Int)).toNat (IntKind.bits .i64))) - 1)),sI 47 v9.Members,sA 46 7 3 1,sB 45 false,sB 44 false,sB 43 r10,sI 42 v9.Id,sA 41 7 3 0,sA 7 7 3 0,sI 6 y3,sI 5 (IntKind.wrap .i64 ((IntKind.wrap .i64 (1 * 2 ^ min (((IntKind.wrap .u64 x1) : Int)).toNat (IntKind.bits .i64))) - 1)),sA 2 2 2 0],[(7,(Vrow.row v9)),(2,(CV.frzRow (Vtab.row x0)))]⟩ kr ?_
 rw [h10]
 refine aT ⟨100,0,[sB 69 true,sB 68 true,sB 67 true,sI 66 v9.Bare,sA 65 7 3 2,sI 64 (IntKind.wrap .i64 (BitVec.ofInt (IntKind.bits .i64) v9.Bare &&& BitVec.ofInt (IntKind.bits .i64) v9.Members).toNat),sI 63 v9.Members,sA 62 7 3 1,sI 61 v9.Bare,sA 60 7 3 2,sB 59 false,sB 58 false,sB 57 false,sB 56 r12,sI 55 (IntKind.wrap .i64 ((IntKind.wrap .i64 (1 * 2 ^ min (((IntKind.wrap .u64 x1) : Int)).toNat (IntKind.bits .i64))) - 1)),sI 54 v9.Bare,sA 53 7 3 2,sB 52 false,sB 51 false,sB 50 false,sB 49 r11,sI 48 (IntKind.wrap .i64 ((IntKind.wrap .i64 (1 * 2 ^ min (((IntKind.wrap .u64 x1) : Int)).toNat (IntKind.bits .i64))) - 1)),sI 47 v9.Members,sA 46 7 3 1,sB 45 false,sB 44 false,sB 43 r10,sI 42 v9.Id,sA 41 7 3 0,sA 7 7 3 0,sI 6 y3,sI 5 (IntKind.wrap .i64 ((IntKind.wrap .i64 (1 * 2 ^ min (((IntKind.wrap .u64 x1) : Int)).toNat (IntKind.bits .i64))) - 1)),sA 2 2 2 0],[(7,(Vrow.row v9)),(2,(CV.frzRow (Vtab.row x0)))]⟩ kr ?_
 exact spec_VtabOk_D5 n v9 r12 x1 r11 r10 y3 x0 cx
theorem spec_VtabOk_D7 (n : Nat) (v9 : Vrow) (r10 : Bool) (y3 : Int) (x1 : Int) (x0 : Vtab) (r11 : Bool) (r12 : Bool) (h7 : (!r10) = false) (h8 : (!r11) = false) (h9 : (!r12) = true) (er10 : (spec_l1InF n v9.Id 1 99) = some r10) (er11 : (spec_l1InF n v9.Members 0 (IntKind.wrap .i64 ((IntKind.wrap .i64 (1 * 2 ^ min (((IntKind.wrap .u64 x1) : Int)).toNat (IntKind.bits .i64))) - 1))) = some r11) (er12 : (spec_l1InF n v9.Bare 0 (IntKind.wrap .i64 ((IntKind.wrap .i64 (1 * 2 ^ min (((IntKind.wrap .u64 x1) : Int)).toNat (IntKind.bits .i64))) - 1))) = some r12) (cx : Cx) : AT Try.prog cx (rg Try.f41 8) [] 44 [] ⟨100,0,[sA 7 7 3 0,sI 6 y3,sI 5 (IntKind.wrap .i64 ((IntKind.wrap .i64 (1 * 2 ^ min (((IntKind.wrap .u64 x1) : Int)).toNat (IntKind.bits .i64))) - 1)),sA 2 2 2 0],[(7,(Vrow.row v9)),(2,(CV.frzRow (Vtab.row x0)))]⟩ (fun s => s = ⟨100,0,[sB 84 true,sI 6 y3,sI 5 (IntKind.wrap .i64 ((IntKind.wrap .i64 (1 * 2 ^ min (((IntKind.wrap .u64 x1) : Int)).toNat (IntKind.bits .i64))) - 1)),sA 2 2 2 0],[(2,(CV.frzRow (Vtab.row x0)))]⟩) := by
 refine mU tOk K41x8 [(0,[]),(1,[2,8,15])] 42 [⟨[2,8,15],3,41,42⟩] [1,0] rfl kr (fun cx => ?_)
 refine mB1 tOk K41x8 2 kr kr ?_
 refine lV tOk [.rd,.rd,.rd] [] (spec_l1In n v9.Id 1 99 r10 er10) kr kr kr kr (.inl rfl) ?_
 refine lF kr kr kr ?_
 refine mU tOk K41x8 [(3,[]),(4,[])] 39 [⟨[2,8,15],3,41,42⟩] [4,3,2,1,0] rfl kr (fun cx => ?_)
 refine aT ⟨100,0,[sB 45 (!r10),sB 44 (!r10),sB 43 r10,sI 42 v9.Id,sA 41 7 3 0,sA 7 7 3 0,sI 6 y3,sI 5 (IntKind.wrap .i64 ((IntKind.wrap .i64 (1 * 2 ^ min (((IntKind.wrap .u64 x1) : Int)).toNat (IntKind.bits .i64))) - 1)),sA 2 2 2 0],[(7,(Vrow.row v9)),(2,(CV.frzRow (Vtab.row x0)))]⟩ kr ?_
 rw [h7]
 refine mU tOk K41x8 [(5,[]),(6,[8,15]),(7,[])] 36 [⟨[8,15],3,46,47⟩,⟨[2,8,15],3,41,42⟩] [7,6,5,4,3,2,1,0] rfl kr (fun cx => ?_)
 refine mB1 tOk K41x8 8 kr kr ?_
 refine lV tOk [.rd,.rd,.rd] [] (spec_l1In n v9.Members 0 (IntKind.wrap .i64 ((IntKind.wrap .i64 (1 * 2 ^ min (((IntKind.wrap .u64 x1) : Int)).toNat (IntKind.bits .i64))) - 1)) r11 er11) kr kr kr kr (.inl rfl) ?_
 refine lF kr kr kr ?_
 refine mU tOk K41x8 [(9,[]),(10,[]),(11,[])] 32 [⟨[8,15],3,46,47⟩,⟨[2,8,15],3,41,42⟩] [11,10,9,8,7,6,5,4,3,2,1,0] rfl kr (fun cx => ?_)
 refine aT ⟨100,0,[sB 52 (!r11),sB 51 (!r11),sB 50 (!r11),sB 49 r11,sI 48 (IntKind.wrap .i64 ((IntKind.wrap .i64 (1 * 2 ^ min (((IntKind.wrap .u64 x1) : Int)).toNat (IntKind.bits .i64))) - 1)),sI 47 v9.Members,sA 46 7 3 1,sB 45 false,sB 44 false,sB 43 r10,sI 42 v9.Id,sA 41 7 3 0,sA 7 7 3 0,sI 6 y3,sI 5 (IntKind.wrap .i64 ((IntKind.wrap .i64 (1 * 2 ^ min (((IntKind.wrap .u64 x1) : Int)).toNat (IntKind.bits .i64))) - 1)),sA 2 2 2 0],[(7,(Vrow.row v9)),(2,(CV.frzRow (Vtab.row x0)))]⟩ kr ?_
 rw [h8]
 refine mU tOk K41x8 [(12,[]),(13,[15]),(14,[])] 29 [⟨[15],3,53,54⟩,⟨[8,15],3,46,47⟩,⟨[2,8,15],3,41,42⟩] [14,13,12,11,10,9,8,7,6,5,4,3,2,1,0] rfl kr (fun cx => ?_)
 refine mB1 tOk K41x8 15 kr kr ?_
 refine lV tOk [.rd,.rd,.rd] [] (spec_l1In n v9.Bare 0 (IntKind.wrap .i64 ((IntKind.wrap .i64 (1 * 2 ^ min (((IntKind.wrap .u64 x1) : Int)).toNat (IntKind.bits .i64))) - 1)) r12 er12) kr kr kr kr (.inl rfl) ?_
 refine lF kr kr kr ?_
 refine mU tOk K41x8 [(16,[]),(17,[]),(18,[])] 25 [⟨[15],3,53,54⟩,⟨[8,15],3,46,47⟩,⟨[2,8,15],3,41,42⟩] [18,17,16,15,14,13,12,11,10,9,8,7,6,5,4,3,2,1,0] rfl kr (fun cx => ?_)
 refine aT ⟨100,0,[sB 59 (!r12),sB 58 (!r12),sB 57 (!r12),sB 56 r12,sI 55 (IntKind.wrap .i64 ((IntKind.wrap .i64 (1 * 2 ^ min (((IntKind.wrap .u64 x1) : Int)).toNat (IntKind.bits .i64))) - 1)),sI 54 v9.Bare,sA 53 7 3 2,sB 52 false,sB 51 false,sB 50 false,sB 49 r11,sI 48 (IntKind.wrap .i64 ((IntKind.wrap .i64 (1 * 2 ^ min (((IntKind.wrap .u64 x1) : Int)).toNat (IntKind.bits .i64))) - 1)),sI 47 v9.Members,sA 46 7 3 1,sB 45 false,sB 44 false,sB 43 r10,sI 42 v9.Id,sA 41 7 3 0,sA 7 7 3 0,sI 6 y3,sI 5 (IntKind.wrap .i64 ((IntKind.wrap .i64 (1 * 2 ^ min (((IntKind.wrap .u64 x1) : Int)).toNat (IntKind.bits .i64))) - 1)),sA 2 2 2 0],[(7,(Vrow.row v9)),(2,(CV.frzRow (Vtab.row x0)))]⟩ kr ?_
 rw [h9]
 refine mU tOk K41x8 [(19,[]),(20,[]),(21,[]),(22,[]),(23,[]),(24,[]),(25,[]),(26,[]),(27,[]),(28,[]),(29,[]),(30,[]),(31,[]),(32,[]),(33,[]),(34,[]),(35,[]),(36,[]),(37,[]),(38,[]),(39,[]),(40,[]),(41,[]),(42,[]),(43,[])] 0 [⟨[15],3,53,54⟩,⟨[8,15],3,46,47⟩,⟨[2,8,15],3,41,42⟩] [43,42,41,40,39,38,37,36,35,34,33,32,31,30,29,28,27,26,25,24,23,22,21,20,19,18,17,16,15,14,13,12,11,10,9,8,7,6,5,4,3,2,1,0] rfl kr (fun cx => ?_)
 exact mD K41x8 [84,6,5,2] [2] _ kr kr rfl
theorem spec_VtabOk_D8 (n : Nat) (v9 : Vrow) (r10 : Bool) (y3 : Int) (x1 : Int) (x0 : Vtab) (r11 : Bool) (h7 : (!r10) = false) (h8 : (!r11) = true) (er10 : (spec_l1InF n v9.Id 1 99) = some r10) (er11 : (spec_l1InF n v9.Members 0 (IntKind.wrap .i64 ((IntKind.wrap .i64 (1 * 2 ^ min (((IntKind.wrap .u64 x1) : Int)).toNat (IntKind.bits .i64))) - 1))) = some r11) (cx : Cx) : AT Try.prog cx (rg Try.f41 8) [] 44 [] ⟨100,0,[sA 7 7 3 0,sI 6 y3,sI 5 (IntKind.wrap .i64 ((IntKind.wrap .i64 (1 * 2 ^ min (((IntKind.wrap .u64 x1) : Int)).toNat (IntKind.bits .i64))) - 1)),sA 2 2 2 0],[(7,(Vrow.row v9)),(2,(CV.frzRow (Vtab.row x0)))]⟩ (fun s => s = ⟨100,0,[sB 84 true,sI 6 y3,sI 5 (IntKind.wrap .i64 ((IntKind.wrap .i64 (1 * 2 ^ min (((IntKind.wrap .u64 x1) : Int)).toNat (IntKind.bits .i64))) - 1)),sA 2 2 2 0],[(2,(CV.frzRow (Vtab.row x0)))]⟩) := by
 refine mU tOk K41x8 [(0,[]),(1,[2,8])] 42 [⟨[2,8],3,41,42⟩] [1,0] rfl kr (fun cx => ?_)
 refine mB1 tOk K41x8 2 kr kr ?_
 refine lV tOk [.rd,.rd,.rd] [] (spec_l1In n v9.Id 1 99 r10 er10) kr kr kr kr (.inl rfl) ?_
 refine lF kr kr kr ?_
 refine mU tOk K41x8 [(3,[]),(4,[])] 39 [⟨[2,8],3,41,42⟩] [4,3,2,1,0] rfl kr (fun cx => ?_)
 refine aT ⟨100,0,[sB 45 (!r10),sB 44 (!r10),sB 43 r10,sI 42 v9.Id,sA 41 7 3 0,sA 7 7 3 0,sI 6 y3,sI 5 (IntKind.wrap .i64 ((IntKind.wrap .i64 (1 * 2 ^ min (((IntKind.wrap .u64 x1) : Int)).toNat (IntKind.bits .i64))) - 1)),sA 2 2 2 0],[(7,(Vrow.row v9)),(2,(CV.frzRow (Vtab.row x0)))]⟩ kr ?_
 rw [h7]
 refine mU tOk K41x8 [(5,[]),(6,[8]),(7,[])] 36 [⟨[8],3,46,47⟩,⟨[2,8],3,41,42⟩] [7,6,5,4,3,2,1,0] rfl kr (fun cx => ?_)
 refine mB1 tOk K41x8 8 kr kr ?_
 refine lV tOk [.rd,.rd,.rd] [] (spec_l1In n v9.Members 0 (IntKind.wrap .i64 ((IntKind.wrap .i64 (1 * 2 ^ min (((IntKind.wrap .u64 x1) : Int)).toNat (IntKind.bits .i64))) - 1)) r11 er11) kr kr kr kr (.inl rfl) ?_
 refine lF kr kr kr ?_
 refine mU tOk K41x8 [(9,[]),(10,[]),(11,[])] 32 [⟨[8],3,46,47⟩,⟨[2,8],3,41,42⟩] [11,10,9,8,7,6,5,4,3,2,1,0] rfl kr (fun cx => ?_)
 refine aT ⟨100,0,[sB 52 (!r11),sB 51 (!r11),sB 50 (!r11),sB 49 r11,sI 48 (IntKind.wrap .i64 ((IntKind.wrap .i64 (1 * 2 ^ min (((IntKind.wrap .u64 x1) : Int)).toNat (IntKind.bits .i64))) - 1)),sI 47 v9.Members,sA 46 7 3 1,sB 45 false,sB 44 false,sB 43 r10,sI 42 v9.Id,sA 41 7 3 0,sA 7 7 3 0,sI 6 y3,sI 5 (IntKind.wrap .i64 ((IntKind.wrap .i64 (1 * 2 ^ min (((IntKind.wrap .u64 x1) : Int)).toNat (IntKind.bits .i64))) - 1)),sA 2 2 2 0],[(7,(Vrow.row v9)),(2,(CV.frzRow (Vtab.row x0)))]⟩ kr ?_
 rw [h8]
 refine mU tOk K41x8 [(12,[]),(13,[]),(14,[]),(15,[]),(16,[]),(17,[]),(18,[]),(19,[]),(20,[]),(21,[]),(22,[]),(23,[]),(24,[]),(25,[]),(26,[]),(27,[]),(28,[]),(29,[]),(30,[]),(31,[]),(32,[]),(33,[]),(34,[]),(35,[]),(36,[]),(37,[]),(38,[]),(39,[]),(40,[]),(41,[]),(42,[]),(43,[])] 0 [⟨[8],3,46,47⟩,⟨[2,8],3,41,42⟩] [43,42,41,40,39,38,37,36,35,34,33,32,31,30,29,28,27,26,25,24,23,22,21,20,19,18,17,16,15,14,13,12,11,10,9,8,7,6,5,4,3,2,1,0] rfl kr (fun cx => ?_)
 exact mD K41x8 [84,6,5,2] [2] _ kr kr rfl
theorem spec_VtabOk (n : Nat) (x0 : Vtab) (x1 : Int) (r : Bool) (H : spec_VtabOkF n x0 x1 = some r) : LCall Try.prog 41 [.val true (CV.frzRow (Vtab.row x0)),.val false [.lit (.int .i64 x1)]] [.val false [.lit (.bool r)]] [] := by
 refine LCall.of_body tOk Try.func41 rfl (c := (.seq (G41 0) (.seq (.seq (G41 1) (.cond (.tmp 24) (.seq (G41 2) .ret) .skip)) (.seq (G41 3) (.seq (.seq (G41 4) (.block 0 (.loop (.seq (.seq (G41 5) (.cond (.tmp 33) .skip (.exit 0))) (.seq (.block 1 (.seq (G41 7) (.seq (D41 8) (.cond (.tmp 84) (.seq (G41 9) .ret) .skip)))) (G41 6)))))) (.seq (.seq (G41 10) (.block 2 (.loop (.seq (.seq (G41 11) (.cond (.tmp 89) .skip (.exit 2))) (.seq (.block 3 (.seq (D41 13) (.cond (.tmp 99) (.seq (G41 14) .ret) .skip))) (G41 12)))))) (.seq (G41 15) .ret))))))) kr (Nat.le_of_ble_eq_true kr) 0 (rs := [.tmp 4]) rfl [] .nil [(false,[.lit (.bool r)])] [] [] fun cx => ?_
 show Tr _ _ _ ⟨100,0,[sV 0 (CV.frzRow (Vtab.row x0)),sI 1 x1],[]⟩ _
 unfold spec_VtabOkF at H
 refine tG tOk 2 6 4 kr kr ?_
 refine tS ?_
 refine rU tOk 1 kr ?_
 obtain ⟨r1,er1,H⟩ := bind_some H
 refine lV tOk [.rd,.rd,.rd] [] (spec_l1In n x1 1 6 r1 er1) kr kr kr kr (.inl rfl) ?_
 refine lU tOk 2 kr ?_
 refine lT ⟨100,0,[sB 12 (!r1),sB 11 (!r1),sB 10 r1,sI 9 x1,sA 2 2 2 0,sI 1 x1],[(2,(CV.frzRow (Vtab.row x0)))]⟩ kr ?_
 cases h1 : (!r1)
 ·have H := bifF h1 H
  refine lU tOk 2 kr ?_
  refine lL tOk 27 3 3 14 15 (some (3,false)) ⟨(.slot 14),[],0,false,1,(CV.frzEs (x0.Pvid.map intRow))⟩ (x0.Pvid).length _ kr kr kr kr kr (frz_len _ _) rfl ?_
  refine lU tOk 4 kr ?_
  refine lT ⟨100,0,[sB 19 ((x0.Pvid.length : Int) != x1),sB 18 ((x0.Pvid.length : Int) != x1),sB 17 ((x0.Pvid.length : Int) != x1),sI 16 x1,sI 15 (x0.Pvid.length : Int),sC 14 (cF 1 x0.Pvid intRow),sA 13 2 2 1,sB 12 false,sB 11 false,sB 10 r1,sI 9 x1,sA 2 2 2 0,sI 1 x1],[(2,(CV.frzRow (Vtab.row x0)))]⟩ kr ?_
  cases h2 : ((x0.Pvid.length : Int) != x1)
  ·have H := bifF h2 H
   refine lU tOk 2 kr ?_
   refine lL tOk 26 3 124 21 22 (some (10,false)) ⟨(.slot 21),[],0,false,3,(CV.frzEs (x0.Rows.map Vrow.row))⟩ (x0.Rows).length _ kr kr kr kr kr (frz_len _ _) rfl ?_
   refine uD tOk 2 16777222 4 kr kr ?_
   obtain ⟨h3,H⟩ | ⟨h3,H⟩ := bC H
   ·refine tF h3 kr ?_
    refine tK ?_
    refine rU tOk 2 kr ?_
    obtain ⟨hg2,H⟩ := guard_some H
    refine LAt.binC tOk (op := .shl) (t := 3) (ty := 112) (ty' := 3) (x := (.const (.int .i64 1))) (y := (.tmp 26)) (d := 27) (g := none) (.int .i64 1) (.int .u64 (IntKind.wrap .u64 x1)) (.int .i64 (IntKind.wrap .i64 (1 * 2 ^ min (((IntKind.wrap .u64 x1) : Int)).toNat (IntKind.bits .i64)))) _ kr kr kr kr kr (φ := (0 : Int) ≤ (IntKind.wrap .u64 x1)) kr (of_decide_eq_true hg2) rfl ?_
    refine uD tOk 2 36 4 kr kr ?_
    refine tS ?_
    refine tG tOk 1 100 4 kr kr ?_
    obtain ⟨o8,eo8,Ho8⟩ := bind_some H
    clear H
    refine Tr.mid (ι := Unit) (fun v => ⟨100,0,[sA 2 2 2 0],[(2,(CV.frzRow (Vtab.row x0)))]⟩) (fun v => spec_VtabOk_J1 n x0 = some r) ?_ ?_
    ·refine tB ?_
     refine Tr.loop (ι := Nat × (Int)) (fun v => ⟨100,0,[sI 6 v.2,sI 5 (IntKind.wrap .i64 ((IntKind.wrap .i64 (1 * 2 ^ min (((IntKind.wrap .u64 x1) : Int)).toNat (IntKind.bits .i64))) - 1)),sA 2 2 2 0],[(2,(CV.frzRow (Vtab.row x0)))]⟩) (fun v => spec_VtabOk_L4 n v.1 x0 x1 v.2 = some o8) (fun v => v.1) (n,0) eo8 (St.sub_of [6,5,2] [2] kr) ?_
     rintro ⟨mo8,y3⟩ H
     have H : spec_VtabOk_L4 n mo8 x0 x1 y3 = some o8 := H
     obtain _ | mo8 := mo8
     ·cases (show (none : Option _) = some o8 from H)
     rw [spec_VtabOk_L4] at H
     refine tS ?_
     refine rU tOk 3 kr ?_
     refine lL tOk 26 3 124 31 32 none ⟨(.slot 31),[],0,false,3,(CV.frzEs (x0.Rows.map Vrow.row))⟩ (x0.Rows).length _ kr kr kr kr kr (frz_len _ _) rfl ?_
     refine uD tOk 1 8589934692 4 kr kr ?_
     obtain ⟨h6,H⟩ | ⟨h6,H⟩ := bC H
     ·refine tF h6 kr ?_
      refine Tr.exit ?_
      refine And.intro (fun _ => ?_) (fun h => absurd rfl h)
      obtain rfl := si H
      have H := Ho8
      dsimp only at H
      exact jn () H (sB_ [2] [2] kr)
     refine tT h6 kr ?_
     refine tK ?_
     refine tS ?_
     refine tB ?_
     refine rU tOk 3 kr ?_
     obtain ⟨v9,ev9,H⟩ := bind_some H
     refine lI tOk 26 0 37 38 39 none ⟨(.slot 37),[],0,false,3,(CV.frzEs (x0.Rows.map Vrow.row))⟩ y3 (Vrow.row v9) _ kr kr kr kr rfl (idx_isF ev9) rfl ?_
     refine uD tOk 3 228 132 kr kr ?_
     obtain ⟨r10,er10,H⟩ := bind_some H
     refine tO ⟨100,0,[sA 7 7 3 0,sI 6 y3,sI 5 (IntKind.wrap .i64 ((IntKind.wrap .i64 (1 * 2 ^ min (((IntKind.wrap .u64 x1) : Int)).toNat (IntKind.bits .i64))) - 1)),sA 2 2 2 0],[(7,(Vrow.row v9)),(2,(CV.frzRow (Vtab.row x0)))]⟩ kr ?_
     cases h7 : (!r10)
     ·have H := bifF h7 H
      obtain ⟨r11,er11,H⟩ := bind_some H
      refine tO ⟨100,0,[sA 7 7 3 0,sI 6 y3,sI 5 (IntKind.wrap .i64 ((IntKind.wrap .i64 (1 * 2 ^ min (((IntKind.wrap .u64 x1) : Int)).toNat (IntKind.bits .i64))) - 1)),sA 2 2 2 0],[(7,(Vrow.row v9)),(2,(CV.frzRow (Vtab.row x0)))]⟩ kr ?_
      cases h8 : (!r11)
      ·have H := bifF h8 H
       obtain ⟨r12,er12,H⟩ := bind_some H
       refine tO ⟨100,0,[sA 7 7 3 0,sI 6 y3,sI 5 (IntKind.wrap .i64 ((IntKind.wrap .i64 (1 * 2 ^ min (((IntKind.wrap .u64 x1) : Int)).toNat (IntKind.bits .i64))) - 1)),sA 2 2 2 0],[(7,(Vrow.row v9)),(2,(CV.frzRow (Vtab.row x0)))]⟩ kr ?_
       cases h9 : (!r12)
       ·have H := bifF h9 H
        refine tO ⟨100,0,[sA 7 7 3 0,sI 6 y3,sI 5 (IntKind.wrap .i64 ((IntKind.wrap .i64 (1 * 2 ^ min (((IntKind.wrap .u64 x1) : Int)).toNat (IntKind.bits .i64))) - 1)),sA 2 2 2 0],[(7,(Vrow.row v9)),(2,(CV.frzRow (Vtab.row x0)))]⟩ kr ?_
        cases h10 : ((IntKind.wrap .i64 (BitVec.ofInt (IntKind.bits .i64) v9.Bare &&& BitVec.ofInt (IntKind.bits .i64) v9.Members).toNat) != v9.Bare)
        ·have H := bifF h10 H
         refine tO ⟨100,0,[sA 7 7 3 0,sI 6 y3,sI 5 (IntKind.wrap .i64 ((IntKind.wrap .i64 (1 * 2 ^ min (((IntKind.wrap .u64 x1) : Int)).toNat (IntKind.bits .i64))) - 1)),sA 2 2 2 0],[(7,(Vrow.row v9)),(2,(CV.frzRow (Vtab.row x0)))]⟩ kr ?_
         cases h11 : (decide (y3 > 0))
         ·have H := bifF h11 H
          refine tO ⟨100,0,[sA 7 7 3 0,sI 6 y3,sI 5 (IntKind.wrap .i64 ((IntKind.wrap .i64 (1 * 2 ^ min (((IntKind.wrap .u64 x1) : Int)).toNat (IntKind.bits .i64))) - 1)),sA 2 2 2 0],[(7,(Vrow.row v9)),(2,(CV.frzRow (Vtab.row x0)))]⟩ kr ?_
          refine Tr.draws mixed 44 kr ⟨100,0,[sB 84 false,sI 6 y3,sI 5 (IntKind.wrap .i64 ((IntKind.wrap .i64 (1 * 2 ^ min (((IntKind.wrap .u64 x1) : Int)).toNat (IntKind.bits .i64))) - 1)),sA 2 2 2 0],[(2,(CV.frzRow (Vtab.row x0)))]⟩ (spec_VtabOk_D2 n v9 r10 y3 x1 x0 r11 r12 h7 h8 h9 er10 er11 er12 h10 h11) ?_
          refine tf kr ?_
          refine tK ?_
          refine tE tOk 3 100 4 kr kr ?_
          exact jn (mo8,(IntKind.wrap .i64 (y3 + 1))) H (sM mo8 [6,5,2] [2] kr)
         have H := bifT h11 H
         obtain ⟨v13,ev13,H⟩ := bind_some H
         refine tO ⟨100,0,[sA 7 7 3 0,sI 6 y3,sI 5 (IntKind.wrap .i64 ((IntKind.wrap .i64 (1 * 2 ^ min (((IntKind.wrap .u64 x1) : Int)).toNat (IntKind.bits .i64))) - 1)),sA 2 2 2 0],[(7,(Vrow.row v9)),(2,(CV.frzRow (Vtab.row x0)))]⟩ kr ?_
         refine Tr.draws mixed 44 kr ⟨100,0,[sB 84 (decide (v13.Id ≥ v9.Id)),sI 6 y3,sI 5 (IntKind.wrap .i64 ((IntKind.wrap .i64 (1 * 2 ^ min (((IntKind.wrap .u64 x1) : Int)).toNat (IntKind.bits .i64))) - 1)),sA 2 2 2 0],[(2,(CV.frzRow (Vtab.row x0)))]⟩ (spec_VtabOk_D4 n v9 r10 y3 x1 x0 r11 r12 v13 h7 h8 h9 er10 er11 er12 h10 h11 ev13) ?_
         refine tO ⟨100,0,[sB 84 (decide (v13.Id ≥ v9.Id)),sI 6 y3,sI 5 (IntKind.wrap .i64 ((IntKind.wrap .i64 (1 * 2 ^ min (((IntKind.wrap .u64 x1) : Int)).toNat (IntKind.bits .i64))) - 1)),sA 2 2 2 0],[(2,(CV.frzRow (Vtab.row x0)))]⟩ kr ?_
         cases h12 : (decide (v13.Id ≥ v9.Id))
         ·have H := bifF h12 H
          refine tf kr ?_
          refine tK ?_
          refine tE tOk 3 100 4 kr kr ?_
          exact jn (mo8,(IntKind.wrap .i64 (y3 + 1))) H (sM mo8 [6,5,2] [2] kr)
         have H := bifT h12 H
         refine tt kr ?_
         refine tG tOk 1 16 0 kr kr ?_
         refine te ?_
         obtain rfl := si H
         have H := Ho8
         dsimp only at H
         obtain rfl := si H
         exact fO [(false,[cB false])] kr rfl rfl
        have H := bifT h10 H
        refine tO ⟨100,0,[sA 7 7 3 0,sI 6 y3,sI 5 (IntKind.wrap .i64 ((IntKind.wrap .i64 (1 * 2 ^ min (((IntKind.wrap .u64 x1) : Int)).toNat (IntKind.bits .i64))) - 1)),sA 2 2 2 0],[(7,(Vrow.row v9)),(2,(CV.frzRow (Vtab.row x0)))]⟩ kr ?_
        refine Tr.draws mixed 44 kr ⟨100,0,[sB 84 true,sI 6 y3,sI 5 (IntKind.wrap .i64 ((IntKind.wrap .i64 (1 * 2 ^ min (((IntKind.wrap .u64 x1) : Int)).toNat (IntKind.bits .i64))) - 1)),sA 2 2 2 0],[(2,(CV.frzRow (Vtab.row x0)))]⟩ (spec_VtabOk_D6 n v9 r10 y3 x1 x0 r11 r12 h7 h8 h9 er10 er11 er12 h10) ?_
        refine tt kr ?_
        refine tG tOk 1 16 0 kr kr ?_
        refine te ?_
        obtain rfl := si H
        have H := Ho8
        dsimp only at H
        obtain rfl := si H
        exact fO [(false,[cB false])] kr rfl rfl
       have H := bifT h9 H
       refine tO ⟨100,0,[sA 7 7 3 0,sI 6 y3,sI 5 (IntKind.wrap .i64 ((IntKind.wrap .i64 (1 * 2 ^ min (((IntKind.wrap .u64 x1) : Int)).toNat (IntKind.bits .i64))) - 1)),sA 2 2 2 0],[(7,(Vrow.row v9)),(2,(CV.frzRow (Vtab.row x0)))]⟩ kr ?_
       refine Tr.draws mixed 44 kr ⟨100,0,[sB 84 true,sI 6 y3,sI 5 (IntKind.wrap .i64 ((IntKind.wrap .i64 (1 * 2 ^ min (((IntKind.wrap .u64 x1) : Int)).toNat (IntKind.bits .i64))) - 1)),sA 2 2 2 0],[(2,(CV.frzRow (Vtab.row x0)))]⟩ (spec_VtabOk_D7 n v9 r10 y3 x1 x0 r11 r12 h7 h8 h9 er10 er11 er12) ?_
       refine tt kr ?_
       refine tG tOk 1 16 0 kr kr ?_
       refine te ?_
       obtain rfl := si H
       have H := Ho8
       dsimp only at H
       obtain rfl := si H
       exact fO [(false,[cB false])] kr rfl rfl
      have H := bifT h8 H
      refine tO ⟨100,0,[sA 7 7 3 0,sI 6 y3,sI 5 (IntKind.wrap .i64 ((IntKind.wrap .i64 (1 * 2 ^ min (((IntKind.wrap .u64 x1) : Int)).toNat (IntKind.bits .i64))) - 1)),sA 2 2 2 0],[(7,(Vrow.row v9)),(2,(CV.frzRow (Vtab.row x0)))]⟩ kr ?_
      refine Tr.draws mixed 44 kr ⟨100,0,[sB 84 true,sI 6 y3,sI 5 (IntKind.wrap .i64 ((IntKind.wrap .i64 (1 * 2 ^ min (((IntKind.wrap .u64 x1) : Int)).toNat (IntKind.bits .i64))) - 1)),sA 2 2 2 0],[(2,(CV.frzRow (Vtab.row x0)))]⟩ (spec_VtabOk_D8 n v9 r10 y3 x1 x0 r11 h7 h8 er10 er11) ?_
      refine tt kr ?_
      refine tG tOk 1 16 0 kr kr ?_
      refine te ?_
      obtain rfl := si H
      have H := Ho8
      dsimp only at H
      obtain rfl := si H
      exact fO [(false,[cB false])] kr rfl rfl
     have H := bifT h7 H
     refine Tr.draws mixed 44 kr ⟨100,0,[sB 84 true,sI 6 y3,sI 5 (IntKind.wrap .i64 ((IntKind.wrap .i64 (1 * 2 ^ min (((IntKind.wrap .u64 x1) : Int)).toNat (IntKind.bits .i64))) - 1)),sA 2 2 2 0],[(2,(CV.frzRow (Vtab.row x0)))]⟩ (fun cx => ?_) ?_
     ·refine mU tOk K41x8 [(0,[]),(1,[2])] 42 [⟨[2],3,41,42⟩] [1,0] rfl kr (fun cx => ?_)
      refine mB1 tOk K41x8 2 kr kr ?_
      refine lV tOk [.rd,.rd,.rd] [] (spec_l1In n v9.Id 1 99 r10 er10) kr kr kr kr (.inl rfl) ?_
      refine lF kr kr kr ?_
      refine mU tOk K41x8 [(3,[]),(4,[])] 39 [⟨[2],3,41,42⟩] [4,3,2,1,0] rfl kr (fun cx => ?_)
      refine aT ⟨100,0,[sB 45 (!r10),sB 44 (!r10),sB 43 r10,sI 42 v9.Id,sA 41 7 3 0,sA 7 7 3 0,sI 6 y3,sI 5 (IntKind.wrap .i64 ((IntKind.wrap .i64 (1 * 2 ^ min (((IntKind.wrap .u64 x1) : Int)).toNat (IntKind.bits .i64))) - 1)),sA 2 2 2 0],[(7,(Vrow.row v9)),(2,(CV.frzRow (Vtab.row x0)))]⟩ kr ?_
      rw [h7]
      refine mU tOk K41x8 [(5,[]),(6,[]),(7,[]),(8,[]),(9,[]),(10,[]),(11,[]),(12,[]),(13,[]),(14,[]),(15,[]),(16,[]),(17,[]),(18,[]),(19,[]),(20,[]),(21,[]),(22,[]),(23,[]),(24,[]),(25,[]),(26,[]),(27,[]),(28,[]),(29,[]),(30,[]),(31,[]),(32,[]),(33,[]),(34,[]),(35,[]),(36,[]),(37,[]),(38,[]),(39,[]),(40,[]),(41,[]),(42,[]),(43,[])] 0 [⟨[2],3,41,42⟩] [43,42,41,40,39,38,37,36,35,34,33,32,31,30,29,28,27,26,25,24,23,22,21,20,19,18,17,16,15,14,13,12,11,10,9,8,7,6,5,4,3,2,1,0] rfl kr (fun cx => ?_)
      exact mD K41x8 [84,6,5,2] [2] _ kr kr rfl
     refine tt kr ?_
     refine tG tOk 1 16 0 kr kr ?_
     refine te ?_
     obtain rfl := si H
     have H := Ho8
     dsimp only at H
     obtain rfl := si H
     exact fO [(false,[cB false])] kr rfl rfl
    rintro _ H
    have H : (spec_VtabOk_J1 n x0) = some r := H
    unfold spec_VtabOk_J1 at H
    refine tS ?_
    refine tG tOk 1 260 4 kr kr ?_
    obtain ⟨o5,eo5,Ho5⟩ := bind_some H
    clear H
    refine Tr.mid (ι := Unit) (fun v => ⟨100,0,[],[]⟩) (fun v => spec_VtabOk_J2 n = some r) ?_ ?_
    ·refine tB ?_
     refine Tr.loop (ι := Nat × (Int)) (fun v => ⟨100,0,[sI 8 v.2,sA 2 2 2 0],[(2,(CV.frzRow (Vtab.row x0)))]⟩) (fun v => spec_VtabOk_L3 n v.1 x0 v.2 = some o5) (fun v => v.1) (n,0) eo5 (St.sub_of [8,2] [2] kr) ?_
     rintro ⟨mo5,y4⟩ H
     have H : spec_VtabOk_L3 n mo5 x0 y4 = some o5 := H
     obtain _ | mo5 := mo5
     ·cases (show (none : Option _) = some o5 from H)
     rw [spec_VtabOk_L3] at H
     refine tS ?_
     refine rU tOk 3 kr ?_
     refine lL tOk 27 3 3 87 88 none ⟨(.slot 87),[],0,false,1,(CV.frzEs (x0.Pvid.map intRow))⟩ (x0.Pvid).length _ kr kr kr kr kr (frz_len _ _) rfl ?_
     refine uD tOk 1 0x20000000000000000000104 4 kr kr ?_
     obtain ⟨h4,H⟩ | ⟨h4,H⟩ := bC H
     ·refine tF h4 kr ?_
      refine Tr.exit ?_
      refine And.intro (fun _ => ?_) (fun h => absurd rfl h)
      obtain rfl := si H
      have H := Ho5
      dsimp only at H
      exact jn () H (sB_ [] [] kr)
     refine tT h4 kr ?_
     refine tK ?_
     refine tS ?_
     refine tB ?_
     obtain ⟨v6,ev6,H⟩ := bind_some H
     obtain ⟨r7,er7,H⟩ := bind_some H
     refine Tr.draws mixed 8 kr ⟨100,0,[sB 99 (decide (r7 < 0)),sI 8 y4,sA 2 2 2 0],[(2,(CV.frzRow (Vtab.row x0)))]⟩ (fun cx => ?_) ?_
     ·refine mU tOk K41x13 [(0,[6]),(1,[]),(2,[6]),(3,[])] 4 [⟨[6],27,93,94⟩,⟨[6],29,2,92⟩] [3,2,1,0] rfl kr (fun cx => ?_)
      refine aI tOk 4 27 0 94 95 96 none ⟨(.box 2),[(0,0)],1,false,1,(CV.frzEs (x0.Pvid.map intRow))⟩ y4 [cI v6] _ kr (oM K41x13 kr) (dM K41x13 kr) kr kr kr rfl (idx_isF ev6) rfl (fun cx => ?_)
      refine mU tOk K41x13 [(5,[])] 2 [⟨[6],27,93,94⟩,⟨[6],29,2,92⟩] [5,4,3,2,1,0] rfl kr (fun cx => ?_)
      refine mB1 tOk K41x13 6 kr kr ?_
      refine lV tOk [.rd,.rd] [] (spec_RowAt n x0 v6 r7 er7) kr kr kr kr (.inl rfl) ?_
      refine lF kr kr kr ?_
      refine mU tOk K41x13 [(7,[])] 0 [⟨[6],27,93,94⟩,⟨[6],29,2,92⟩] [7,6,5,4,3,2,1,0] rfl kr (fun cx => ?_)
      exact mD K41x13 [99,8,2] [2] _ kr kr rfl
     refine tO ⟨100,0,[sB 99 (decide (r7 < 0)),sI 8 y4,sA 2 2 2 0],[(2,(CV.frzRow (Vtab.row x0)))]⟩ kr ?_
     cases h5 : (decide (r7 < 0))
     ·have H := bifF h5 H
      refine tf kr ?_
      refine tK ?_
      refine tE tOk 3 260 4 kr kr ?_
      exact jn (mo5,(IntKind.wrap .i64 (y4 + 1))) H (sM mo5 [8,2] [2] kr)
     have H := bifT h5 H
     refine tt kr ?_
     refine tG tOk 1 16 0 kr kr ?_
     refine te ?_
     obtain rfl := si H
     have H := Ho5
     dsimp only at H
     obtain rfl := si H
     exact fO [(false,[cB false])] kr rfl rfl
    rintro _ H
    have H : (spec_VtabOk_J2 n) = some r := H
    unfold spec_VtabOk_J2 at H
    refine tG tOk 1 16 0 kr kr ?_
    exact te (by obtain rfl := si H; exact fO [(false,[cB true])] kr rfl rfl)
   refine tT h3 kr ?_
   refine tG tOk 1 16 0 kr kr ?_
   exact te (by obtain rfl := si H; exact fO [(false,[cB false])] kr rfl rfl)
  have H := bifT h2 H
  refine uD tOk 5 16777222 4 kr kr ?_
  refine tt kr ?_
  refine tG tOk 1 16 0 kr kr ?_
  exact te (by obtain rfl := si H; exact fO [(false,[cB false])] kr rfl rfl)
 have H := bifT h1 H
 refine uD tOk 12 16777222 4 kr kr ?_
 refine tt kr ?_
 refine tG tOk 1 16 0 kr kr ?_
 exact te (by obtain rfl := si H; exact fO [(false,[cB false])] kr rfl rfl)
def spec_l9CopyF (n : Nat) (x0 : Vtab) : Option (Vtab) :=
  (bif (decide (([] : List Vrow).length + x0.Rows.length ≤ 268435456)) then (bif (decide (([] : List Int).length + x0.Pvid.length ≤ 268435456)) then (some (⟨(([] : List Vrow) ++ x0.Rows),(([] : List Int) ++ x0.Pvid)⟩ : Vtab)) else none) else none)
def T107x1 : Tab := ⟨10,[0,0,2,5,0,0,32,88,136,511],[0,0,2,5,0,0,32,80,136,256],[0,0,2,7,0,0,32,127,255,511]⟩
noncomputable abbrev G107 (k : Nat) := Rg Try.f107 k
noncomputable abbrev D107 (k : Nat) := Rd Try.f107 k
theorem K107x1 : tabOk (rg Try.f107 1) T107x1 = true := kr
theorem spec_l9Copy_D1 (n : Nat) (x0 : Vtab) (hg1 : (decide (([] : List Vrow).length + x0.Rows.length ≤ 268435456)) = true) (hg2 : (decide (([] : List Int).length + x0.Pvid.length ≤ 268435456)) = true) (cx : Cx) : AT Try.prog cx (rg Try.f107 1) [] 10 [] ⟨12,0,[sA 2 2 2 0,sA 1 1 2 0],[(2,[cL 3 ([] : List Vrow) Vrow.row,cL 1 ([] : List Int) intRow]),(1,(CV.frzRow (Vtab.row x0)))]⟩ (fun s => s = ⟨12,0,[sA 2 2 2 0],[(2,[cL 3 (([] : List Vrow) ++ x0.Rows) Vrow.row,cL 1 (([] : List Int) ++ x0.Pvid) intRow])]⟩) := by
 refine mU tOk K107x1 [(1,[]),(2,[3,7,8,9]),(5,[]),(6,[7,8,9])] 6 [⟨[7,8,9],27,8,9⟩,⟨[3,7,8,9],26,4,5⟩] [6,5,2,1] rfl kr (fun cx => ?_)
 refine mB2 tOk K107x1 0 4 kr (And.intro kr ?_) (And.intro kr ?_)
 ·refine lU tOk 1 kr ?_
  refine lF kr kr kr ?_
  refine mB2 tOk K107x1 3 4 kr (And.intro kr ?_) (And.intro kr ?_)
  ·refine LAt.appCU tOk (t := 26) (ty := 26) (e := 124) (x := (.tmp 3)) (y := (.tmp 5)) (d := 6) (g := none) (tI 124) Vrow.row ([] : List Vrow) x0.Rows ⟨(.box 1),[(0,0)],0,false,3,(CV.frzEs (x0.Rows.map Vrow.row))⟩ kr kr kr kr kr kr kr kr kr kr kr (.inr rfl) (fun _ => rfl) (fun _ => rfl) hg1 ?_
   refine lF kr kr kr ?_
   refine mB1 tOk K107x1 4 kr kr ?_
   refine lU tOk 1 kr ?_
   refine lF kr kr kr ?_
   refine mB1 tOk K107x1 7 kr kr ?_
   refine LAt.appCU tOk (t := 27) (ty := 27) (e := 3) (x := (.tmp 7)) (y := (.tmp 9)) (d := 10) (g := none) (tI 3) intRow ([] : List Int) x0.Pvid ⟨(.box 1),[(0,0)],1,false,1,(CV.frzEs (x0.Pvid.map intRow))⟩ kr kr kr kr kr kr kr kr kr kr kr (.inr rfl) (fun _ => rfl) (fun _ => rfl) hg2 ?_
   refine lF kr kr kr ?_
   refine mB1 tOk K107x1 8 kr kr ?_
   refine lU tOk 1 kr ?_
   refine lF kr kr kr ?_
   refine mB1 tOk K107x1 9 kr kr ?_
   refine lU tOk 1 kr ?_
   refine lF kr kr kr ?_
   exact mD K107x1 [2] [2] _ kr kr rfl
  ·refine lU tOk 1 kr ?_
   refine lF kr kr kr ?_
   refine mB1 tOk K107x1 3 kr kr ?_
   refine LAt.appCU tOk (t := 26) (ty := 26) (e := 124) (x := (.tmp 3)) (y := (.tmp 5)) (d := 6) (g := none) (tI 124) Vrow.row ([] : List Vrow) x0.Rows ⟨(.box 1),[(0,0)],0,false,3,(CV.frzEs (x0.Rows.map Vrow.row))⟩ kr kr kr kr kr kr kr kr kr kr kr (.inr rfl) (fun _ => rfl) (fun _ => rfl) hg1 ?_
   refine lF kr kr kr ?_
   refine mB1 tOk K107x1 7 kr kr ?_
   refine LAt.appCU tOk (t := 27) (ty := 27) (e := 3) (x := (.tmp 7)) (y := (.tmp 9)) (d := 10) (g := none) (tI 3) intRow ([] : List Int) x0.Pvid ⟨(.box 1),[(0,0)],1,false,1,(CV.frzEs (x0.Pvid.map intRow))⟩ kr kr kr kr kr kr kr kr kr kr kr (.inr rfl) (fun _ => rfl) (fun _ => rfl) hg2 ?_
   refine lF kr kr kr ?_
   refine mB1 tOk K107x1 8 kr kr ?_
   refine lU tOk 1 kr ?_
   refine lF kr kr kr ?_
   refine mB1 tOk K107x1 9 kr kr ?_
   refine lU tOk 1 kr ?_
   refine lF kr kr kr ?_
   exact mD K107x1 [2] [2] _ kr kr rfl
 ·refine lU tOk 1 kr ?_
  refine lF kr kr kr ?_
  refine mB1 tOk K107x1 0 kr kr ?_
  refine lU tOk 1 kr ?_
  refine lF kr kr kr ?_
  refine mB1 tOk K107x1 3 kr kr ?_
  refine LAt.appCU tOk (t := 26) (ty := 26) (e := 124) (x := (.tmp 3)) (y := (.tmp 5)) (d := 6) (g := none) (tI 124) Vrow.row ([] : List Vrow) x0.Rows ⟨(.box 1),[(0,0)],0,false,3,(CV.frzEs (x0.Rows.map Vrow.row))⟩ kr kr kr kr kr kr kr kr kr kr kr (.inr rfl) (fun _ => rfl) (fun _ => rfl) hg1 ?_
  refine lF kr kr kr ?_
  refine mB1 tOk K107x1 7 kr kr ?_
  refine LAt.appCU tOk (t := 27) (ty := 27) (e := 3) (x := (.tmp 7)) (y := (.tmp 9)) (d := 10) (g := none) (tI 3) intRow ([] : List Int) x0.Pvid ⟨(.box 1),[(0,0)],1,false,1,(CV.frzEs (x0.Pvid.map intRow))⟩ kr kr kr kr kr kr kr kr kr kr kr (.inr rfl) (fun _ => rfl) (fun _ => rfl) hg2 ?_
  refine lF kr kr kr ?_
  refine mB1 tOk K107x1 8 kr kr ?_
  refine lU tOk 1 kr ?_
  refine lF kr kr kr ?_
  refine mB1 tOk K107x1 9 kr kr ?_
  refine lU tOk 1 kr ?_
  refine lF kr kr kr ?_
  exact mD K107x1 [2] [2] _ kr kr rfl
theorem spec_l9Copy (n : Nat) (x0 : Vtab) (r : Vtab) (H : spec_l9CopyF n x0 = some r) : LCall Try.prog 107 [.val true (CV.frzRow (Vtab.row x0))] [.val true (Vtab.row r)] [] := by
 refine LCall.of_body tOk Try.func107 rfl (c := (.seq (G107 0) (.seq (D107 1) .ret))) kr (Nat.le_of_ble_eq_true kr) 0 (rs := [.cell 2 29]) rfl [] .nil [(true,(Vtab.row r))] [] [] fun cx => ?_
 show Tr _ _ _ ⟨12,0,[sV 0 (CV.frzRow (Vtab.row x0))],[]⟩ _
 unfold spec_l9CopyF at H
 refine tG tOk 2 6 6 kr kr ?_
 obtain ⟨hg1,H⟩ := guard_some H
 obtain ⟨hg2,H⟩ := guard_some H
 refine tO ⟨12,0,[sA 2 2 2 0,sA 1 1 2 0],[(2,[cL 3 ([] : List Vrow) Vrow.row,cL 1 ([] : List Int) intRow]),(1,(CV.frzRow (Vtab.row x0)))]⟩ kr ?_
 refine Tr.draws mixed 10 kr ⟨12,0,[sA 2 2 2 0],[(2,[cL 3 (([] : List Vrow) ++ x0.Rows) Vrow.row,cL 1 (([] : List Int) ++ x0.Pvid) intRow])]⟩ (spec_l9Copy_D1 n x0 hg1 hg2) ?_
 exact te (by obtain rfl := si H; exact fO [(true,[cL 3 (([] : List Vrow) ++ x0.Rows) Vrow.row,cL 1 (([] : List Int) ++ x0.Pvid) intRow])] kr rfl rfl)
def spec_l9OrF (n : Nat) (x0 : Vtab) (x1 : Vtab) : Option (Vtab × Bool) :=
  ((spec_VtabOkF n x0 (x1.Pvid.length : Int)).bind fun r1 => (bif (!r1) then ((spec_l9CopyF n x1).bind fun r2 => (some (r2,false))) else (some (x0,true))))
noncomputable abbrev G108 (k : Nat) := Rg Try.f108 k
theorem spec_l9Or (n : Nat) (x0 : Vtab) (x1 : Vtab) (r : Vtab × Bool) (H : spec_l9OrF n x0 x1 = some r) : LCall Try.prog 108 [.own true (Vtab.row x0),.val true (CV.frzRow (Vtab.row x1))] [.val true (Vtab.row r.1),.val false [.lit (.bool r.2)]] [] := by
 refine LCall.of_body tOk Try.func108 rfl (c := (.seq (G108 0) (.seq (.seq (G108 1) (.cond (.tmp 11) (.seq (G108 2) .ret) .skip)) (.seq (G108 3) .ret)))) kr (Nat.le_of_ble_eq_true kr) 0 (rs := [.cell 4 29,.tmp 5]) rfl [] .nil [(true,(Vtab.row r.1)),(false,[.lit (.bool r.2)])] [] [] fun cx => ?_
 show Tr _ _ _ ⟨15,0,[sV 0 (Vtab.row x0),sV 1 (CV.frzRow (Vtab.row x1))],[]⟩ _
 unfold spec_l9OrF at H
 refine tG tOk 4 28 28 kr kr ?_
 refine tS ?_
 refine rU tOk 3 kr ?_
 refine lL tOk 27 3 3 8 9 none ⟨(.slot 8),[],0,false,1,(CV.frzEs (x1.Pvid.map intRow))⟩ (x1.Pvid).length _ kr kr kr kr kr (frz_len _ _) rfl ?_
 obtain ⟨r1,er1,H⟩ := bind_some H
 refine lV tOk [.rd,.rd] [.box 2] (spec_VtabOk n x0 (x1.Pvid.length : Int) r1 er1) kr kr kr kr (.inr (rets_cons (mine_cons mine_lit mine_nil) rets_nil)) ?_
 refine uD tOk 1 2076 28 kr kr ?_
 obtain ⟨h1,H⟩ | ⟨h1,H⟩ := bC H
 ·refine tF h1 kr ?_
  refine tK ?_
  refine tG tOk 3 48 16 kr kr ?_
  exact te (by obtain rfl := si H; exact fO [(true,(Vtab.row x0)),(false,[cB true])] kr rfl rfl)
 refine tT h1 kr ?_
 refine rU tOk 1 kr ?_
 obtain ⟨r2,er2,H⟩ := bind_some H
 refine lV tOk [.rd] [] (spec_l9Copy n x1 r2 er2) kr kr kr kr (.inl rfl) ?_
 refine uD tOk 2 48 16 kr kr ?_
 exact te (by obtain rfl := si H; exact fO [(true,(Vtab.row r2)),(false,[cB false])] kr rfl rfl)
def spec_SetPvidF (n : Nat) (x0 : Vtab) (x1 : Int) (x2 : Int) : Option (Vtab × Bool) :=
  ((spec_VtabOkF n x0 (x0.Pvid.length : Int)).bind fun r1 => (bif (!r1) then ((spec_l9CopyF n x0).bind fun r7 => (some (r7,false))) else ((spec_l1InF n x1 0 (IntKind.wrap .i64 ((x0.Pvid.length : Int) - 1))).bind fun r2 => (bif (!r2) then ((spec_l9CopyF n x0).bind fun r6 => (some (r6,false))) else ((spec_l9CopyF n x0).bind fun r3 => ((idx r3.Pvid x1).bind fun v4 => ((spec_l9OrF n (⟨r3.Rows,(r3.Pvid.set (x1.toNat) x2)⟩ : Vtab) x0).bind fun r5 => (some (r5.1,r5.2)))))))))
noncomputable abbrev G39 (k : Nat) := Rg Try.f39 k
theorem spec_SetPvid (n : Nat) (x0 : Vtab) (x1 : Int) (x2 : Int) (r : Vtab × Bool) (H : spec_SetPvidF n x0 x1 x2 = some r) : LCall Try.prog 39 [.val true (CV.frzRow (Vtab.row x0)),.val false [.lit (.int .i64 x1)],.val false [.lit (.int .i64 x2)]] [.val true (Vtab.row r.1),.val false [.lit (.bool r.2)]] [] := by
 refine LCall.of_body tOk Try.func39 rfl (c := (.seq (G39 0) (.seq (.seq (G39 1) (.cond (.tmp 23) (.seq (G39 2) .ret) .skip)) (.seq (G39 3) (.seq (G39 4) (.seq (G39 5) .ret)))))) kr (Nat.le_of_ble_eq_true kr) 0 (rs := [.cell 6 29,.tmp 7]) rfl [] .nil [(true,(Vtab.row r.1)),(false,[.lit (.bool r.2)])] [] [] fun cx => ?_
 show Tr _ _ _ ⟨38,0,[sV 0 (CV.frzRow (Vtab.row x0)),sI 1 x1,sI 2 x2],[]⟩ _
 unfold spec_SetPvidF at H
 refine tG tOk 3 78 72 kr kr ?_
 refine tS ?_
 refine rU tOk 3 kr ?_
 refine lL tOk 27 3 3 11 12 none ⟨(.slot 11),[],0,false,1,(CV.frzEs (x0.Pvid.map intRow))⟩ (x0.Pvid).length _ kr kr kr kr kr (frz_len _ _) rfl ?_
 obtain ⟨r1,er1,H⟩ := bind_some H
 refine lV tOk [.rd,.rd] [] (spec_VtabOk n x0 (x0.Pvid.length : Int) r1 er1) kr kr kr kr (.inl rfl) ?_
 refine lU tOk 2 kr ?_
 refine lT ⟨38,0,[sB 15 (!r1),sB 14 (!r1),sB 13 r1,sI 12 (x0.Pvid.length : Int),sC 11 (cF 1 x0.Pvid intRow),sA 10 3 2 1,sV 9 (CV.frzRow (Vtab.row x0)),sA 6 6 2 0,sA 3 3 2 0,sI 1 x1,sI 2 x2],[(6,[cL 3 ([] : List Vrow) Vrow.row,cL 1 ([] : List Int) intRow]),(3,(CV.frzRow (Vtab.row x0)))]⟩ kr ?_
 cases h1 : (!r1)
 ·have H := bifF h1 H
  refine lU tOk 3 kr ?_
  refine lL tOk 27 3 3 18 19 (some (6,false)) ⟨(.slot 18),[],0,false,1,(CV.frzEs (x0.Pvid.map intRow))⟩ (x0.Pvid).length _ kr kr kr kr kr (frz_len _ _) rfl ?_
  refine lU tOk 1 kr ?_
  obtain ⟨r2,er2,H⟩ := bind_some H
  refine lV tOk [.rd,.rd,.rd] [] (spec_l1In n x1 0 (IntKind.wrap .i64 ((x0.Pvid.length : Int) - 1)) r2 er2) kr kr kr kr (.inl rfl) ?_
  refine uD tOk 2 8388686 72 kr kr ?_
  obtain ⟨h2,H⟩ | ⟨h2,H⟩ := bC H
  ·refine tF h2 kr ?_
   refine tK ?_
   refine rU tOk 1 kr ?_
   obtain ⟨r3,er3,H⟩ := bind_some H
   refine lV tOk [.rd] [] (spec_l9Copy n x0 r3 er3) kr kr kr kr (.inl rfl) ?_
   refine uD tOk 2 334 328 kr kr ?_
   refine rU tOk 4 kr ?_
   obtain ⟨v4,ev4,H⟩ := bind_some H
   refine lO tOk 27 0 29 30 32 none ⟨(.box 8),[(0,0)],1,true,1,(r3.Pvid.map intRow)⟩ x1 (x1.toNat) (intRow v4) _ kr kr kr kr rfl kr (idx_isE ev4) rfl rfl ?_
   refine LAt.storeB tOk (t := 3) (ty := 0) (ad := (.tmp 32)) (x := (.tmp 31)) (g := none) (tI 3) false [cI x2] 8 1 (x1.toNat) 1 0 1 r3.Pvid intRow v4 x2 kr kr kr kr kr kr kr kr (idx_get ev4).2 kr kr kr kr ?_
   refine lD 328 328 kr ?_
   refine rU tOk 2 kr ?_
   obtain ⟨r5,er5,H⟩ := bind_some H
   refine lV tOk [.own,.rd] [] (spec_l9Or n (⟨r3.Rows,(r3.Pvid.set (x1.toNat) x2)⟩ : Vtab) x0 r5 er5) kr kr kr kr (.inl rfl) ?_
   refine uD tOk 4 192 64 kr kr ?_
   exact te (by obtain rfl := si H; exact fO [(true,(Vtab.row r5.1)),(false,[cB r5.2])] kr rfl rfl)
  refine tT h2 kr ?_
  refine rU tOk 1 kr ?_
  obtain ⟨r6,er6,H⟩ := bind_some H
  refine lV tOk [.rd] [] (spec_l9Copy n x0 r6 er6) kr kr kr kr (.inl rfl) ?_
  refine uD tOk 2 192 64 kr kr ?_
  exact te (by obtain rfl := si H; exact fO [(true,(Vtab.row r6)),(false,[cB false])] kr rfl rfl)
 have H := bifT h1 H
 refine uD tOk 8 8388686 72 kr kr ?_
 refine tt kr ?_
 refine rU tOk 1 kr ?_
 obtain ⟨r7,er7,H⟩ := bind_some H
 refine lV tOk [.rd] [] (spec_l9Copy n x0 r7 er7) kr kr kr kr (.inl rfl) ?_
 refine uD tOk 2 192 64 kr kr ?_
 exact te (by obtain rfl := si H; exact fO [(true,(Vtab.row r7)),(false,[cB false])] kr rfl rfl)
def spec_DropRowF (n : Nat) (x0 : Vtab) (x1 : Int) : Option (Vtab × Bool) :=
  ((spec_RowAtF n x0 x1).bind fun r1 => ((spec_VtabOkF n x0 (x0.Pvid.length : Int)).bind fun r2 => (bif (!r2) then ((spec_l9CopyF n x0).bind fun r10 => (some (r10,false))) else (bif (decide (r1 < 0)) then ((spec_l9CopyF n x0).bind fun r9 => (some (r9,false))) else ((spec_l9CopyF n x0).bind fun r3 => (bif (decide ((0 : Int) ≤ 0) && (decide ((0 : Int) ≤ r1) && decide ((r1 : Int) ≤ (x0.Rows.length : Int)))) then (bif (decide (([] : List Vrow).length + ((x0.Rows.drop ((0 : Int)).toNat).take (((r1 : Int)).toNat - ((0 : Int)).toNat)).length ≤ 268435456)) then (bif (decide ((0 : Int) ≤ (IntKind.wrap .i64 (r1 + 1))) && (decide (((IntKind.wrap .i64 (r1 + 1)) : Int) ≤ (x0.Rows.length : Int)) && decide (((x0.Rows.length : Int) : Int) ≤ (x0.Rows.length : Int)))) then (bif (decide ((([] : List Vrow) ++ ((x0.Rows.drop ((0 : Int)).toNat).take (((r1 : Int)).toNat - ((0 : Int)).toNat))).length + ((x0.Rows.drop (((IntKind.wrap .i64 (r1 + 1)) : Int)).toNat).take ((((x0.Rows.length : Int) : Int)).toNat - (((IntKind.wrap .i64 (r1 + 1)) : Int)).toNat)).length ≤ 268435456)) then ((spec_l9OrF n (⟨((([] : List Vrow) ++ ((x0.Rows.drop ((0 : Int)).toNat).take (((r1 : Int)).toNat - ((0 : Int)).toNat))) ++ ((x0.Rows.drop (((IntKind.wrap .i64 (r1 + 1)) : Int)).toNat).take ((((x0.Rows.length : Int) : Int)).toNat - (((IntKind.wrap .i64 (r1 + 1)) : Int)).toNat))),r3.Pvid⟩ : Vtab) x0).bind fun r8 => (some (r8.1,r8.2))) else none) else none) else none) else none))))))
def T36x5 : Tab := ⟨14,[0,0,2,0,12,17,0,64,0,256,640,1056,4095,8191],[0,0,2,0,12,17,0,64,0,256,640,1056,0,6144],[0,0,2,0,14,31,0,64,0,256,960,2047,4095,8191]⟩
noncomputable abbrev G36 (k : Nat) := Rg Try.f36 k
noncomputable abbrev D36 (k : Nat) := Rd Try.f36 k
theorem K36x5 : tabOk (rg Try.f36 5) T36x5 = true := kr
theorem spec_DropRow_D1 (n : Nat) (x0 : Vtab) (r1 : Int) (r3 : Vtab) (hg4 : (decide ((0 : Int) ≤ 0) && (decide ((0 : Int) ≤ r1) && decide ((r1 : Int) ≤ (x0.Rows.length : Int)))) = true) (hg5 : (decide (([] : List Vrow).length + ((x0.Rows.drop ((0 : Int)).toNat).take (((r1 : Int)).toNat - ((0 : Int)).toNat)).length ≤ 268435456)) = true) (hg6 : (decide ((0 : Int) ≤ (IntKind.wrap .i64 (r1 + 1))) && (decide (((IntKind.wrap .i64 (r1 + 1)) : Int) ≤ (x0.Rows.length : Int)) && decide (((x0.Rows.length : Int) : Int) ≤ (x0.Rows.length : Int)))) = true) (hg7 : (decide ((([] : List Vrow) ++ ((x0.Rows.drop ((0 : Int)).toNat).take (((r1 : Int)).toNat - ((0 : Int)).toNat))).length + ((x0.Rows.drop (((IntKind.wrap .i64 (r1 + 1)) : Int)).toNat).take ((((x0.Rows.length : Int) : Int)).toNat - (((IntKind.wrap .i64 (r1 + 1)) : Int)).toNat)).length ≤ 268435456)) = true) (cx : Cx) : AT Try.prog cx (rg Try.f36 5) [] 14 [] ⟨43,0,[sA 7 7 2 0,sI 6 r1,sA 4 4 2 0,sA 2 2 2 0],[(7,(Vtab.row r3)),(4,[cL 3 ([] : List Vrow) Vrow.row,cL 1 ([] : List Int) intRow]),(2,(CV.frzRow (Vtab.row x0)))]⟩ (fun s => s = ⟨43,0,[sA 7 7 2 0,sA 4 4 2 0,sA 2 2 2 0],[(7,[cL 3 ((([] : List Vrow) ++ ((x0.Rows.drop ((0 : Int)).toNat).take (((r1 : Int)).toNat - ((0 : Int)).toNat))) ++ ((x0.Rows.drop (((IntKind.wrap .i64 (r1 + 1)) : Int)).toNat).take ((((x0.Rows.length : Int) : Int)).toNat - (((IntKind.wrap .i64 (r1 + 1)) : Int)).toNat))) Vrow.row,cL 1 r3.Pvid intRow]),(4,[cL 3 ([] : List Vrow) Vrow.row,cL 1 ([] : List Int) intRow]),(2,(CV.frzRow (Vtab.row x0)))]⟩) := by
 refine mU tOk K36x5 [(1,[]),(2,[4,5,11,13]),(3,[]),(6,[]),(7,[10,11,13]),(8,[]),(9,[])] 7 [⟨[10,11,13],26,31,32⟩,⟨[4,5,11,13],26,26,27⟩] [9,8,7,6,3,2,1] rfl kr (fun cx => ?_)
 refine mB3 tOk K36x5 0 4 10 kr (And.intro kr ?_) (And.intro kr ?_) (And.intro kr ?_)
 ·refine lU tOk 1 kr ?_
  refine lF kr kr kr ?_
  refine mB2 tOk K36x5 4 10 kr (And.intro kr ?_) (And.intro kr ?_)
  ·refine LAt.cutG tOk (t := 26) (ty := 26) (e := 124) (x := (.tmp 27)) (lo := none) (hi := (some (.tmp 28))) (d := 29) (g := none) (tI 124) Vrow.row x0.Rows ⟨(.box 2),[(0,0)],0,false,3,(CV.frzEs (x0.Rows.map Vrow.row))⟩ 0 r1 kr kr kr kr kr kr rfl kr rfl kr kr hg4 ?_
   refine lF kr kr kr ?_
   refine mB2 tOk K36x5 5 10 kr (And.intro kr ?_) (And.intro kr ?_)
   ·refine LAt.appCU tOk (t := 26) (ty := 26) (e := 124) (x := (.tmp 25)) (y := (.tmp 29)) (d := 30) (g := none) (tI 124) Vrow.row ([] : List Vrow) ((x0.Rows.drop ((0 : Int)).toNat).take (((r1 : Int)).toNat - ((0 : Int)).toNat)) ⟨(.slot 29),[],0,false,3,(CV.frzEs (((x0.Rows.drop ((0 : Int)).toNat).take (((r1 : Int)).toNat - ((0 : Int)).toNat)).map Vrow.row))⟩ kr kr kr kr kr kr kr kr kr kr kr (.inr rfl) (fun _ => rfl) (fun _ => rfl) hg5 ?_
    refine lF kr kr kr ?_
    refine mB1 tOk K36x5 10 kr kr ?_
    refine LAt.cutG tOk (t := 26) (ty := 26) (e := 124) (x := (.tmp 32)) (lo := (some (.tmp 34))) (hi := none) (d := 35) (g := none) (tI 124) Vrow.row x0.Rows ⟨(.box 2),[(0,0)],0,false,3,(CV.frzEs (x0.Rows.map Vrow.row))⟩ (IntKind.wrap .i64 (r1 + 1)) (x0.Rows.length : Int) kr kr kr kr kr kr rfl kr rfl kr kr hg6 ?_
    refine lF kr kr kr ?_
    refine mB1 tOk K36x5 11 kr kr ?_
    refine LAt.appCU tOk (t := 26) (ty := 26) (e := 124) (x := (.tmp 30)) (y := (.tmp 35)) (d := 36) (g := none) (tI 124) Vrow.row (([] : List Vrow) ++ ((x0.Rows.drop ((0 : Int)).toNat).take (((r1 : Int)).toNat - ((0 : Int)).toNat))) ((x0.Rows.drop (((IntKind.wrap .i64 (r1 + 1)) : Int)).toNat).take ((((x0.Rows.length : Int) : Int)).toNat - (((IntKind.wrap .i64 (r1 + 1)) : Int)).toNat)) ⟨(.slot 35),[],0,false,3,(CV.frzEs (((x0.Rows.drop (((IntKind.wrap .i64 (r1 + 1)) : Int)).toNat).take ((((x0.Rows.length : Int) : Int)).toNat - (((IntKind.wrap .i64 (r1 + 1)) : Int)).toNat)).map Vrow.row))⟩ kr kr kr kr kr kr kr kr kr kr kr (.inr rfl) (fun _ => rfl) (fun _ => rfl) hg7 ?_
    refine lF kr kr kr ?_
    refine mU tOk K36x5 [(12,[])] 1 [⟨[10,11,13],26,31,32⟩,⟨[4,5,11,13],26,26,27⟩] [12,11,10,5,4,0,9,8,7,6,3,2,1] rfl kr (fun cx => ?_)
    refine mB1 tOk K36x5 13 kr kr ?_
    refine lU tOk 1 kr ?_
    refine lF kr kr kr ?_
    exact mD K36x5 [7,4,2] [7,4,2] _ kr kr rfl
   ·refine LAt.cutG tOk (t := 26) (ty := 26) (e := 124) (x := (.tmp 32)) (lo := (some (.tmp 34))) (hi := none) (d := 35) (g := none) (tI 124) Vrow.row x0.Rows ⟨(.box 2),[(0,0)],0,false,3,(CV.frzEs (x0.Rows.map Vrow.row))⟩ (IntKind.wrap .i64 (r1 + 1)) (x0.Rows.length : Int) kr kr kr kr kr kr rfl kr rfl kr kr hg6 ?_
    refine lF kr kr kr ?_
    refine mB1 tOk K36x5 5 kr kr ?_
    refine LAt.appCU tOk (t := 26) (ty := 26) (e := 124) (x := (.tmp 25)) (y := (.tmp 29)) (d := 30) (g := none) (tI 124) Vrow.row ([] : List Vrow) ((x0.Rows.drop ((0 : Int)).toNat).take (((r1 : Int)).toNat - ((0 : Int)).toNat)) ⟨(.slot 29),[],0,false,3,(CV.frzEs (((x0.Rows.drop ((0 : Int)).toNat).take (((r1 : Int)).toNat - ((0 : Int)).toNat)).map Vrow.row))⟩ kr kr kr kr kr kr kr kr kr kr kr (.inr rfl) (fun _ => rfl) (fun _ => rfl) hg5 ?_
    refine lF kr kr kr ?_
    refine mB1 tOk K36x5 11 kr kr ?_
    refine LAt.appCU tOk (t := 26) (ty := 26) (e := 124) (x := (.tmp 30)) (y := (.tmp 35)) (d := 36) (g := none) (tI 124) Vrow.row (([] : List Vrow) ++ ((x0.Rows.drop ((0 : Int)).toNat).take (((r1 : Int)).toNat - ((0 : Int)).toNat))) ((x0.Rows.drop (((IntKind.wrap .i64 (r1 + 1)) : Int)).toNat).take ((((x0.Rows.length : Int) : Int)).toNat - (((IntKind.wrap .i64 (r1 + 1)) : Int)).toNat)) ⟨(.slot 35),[],0,false,3,(CV.frzEs (((x0.Rows.drop (((IntKind.wrap .i64 (r1 + 1)) : Int)).toNat).take ((((x0.Rows.length : Int) : Int)).toNat - (((IntKind.wrap .i64 (r1 + 1)) : Int)).toNat)).map Vrow.row))⟩ kr kr kr kr kr kr kr kr kr kr kr (.inr rfl) (fun _ => rfl) (fun _ => rfl) hg7 ?_
    refine lF kr kr kr ?_
    refine mU tOk K36x5 [(12,[])] 1 [⟨[10,11,13],26,31,32⟩,⟨[4,5,11,13],26,26,27⟩] [12,11,5,10,4,0,9,8,7,6,3,2,1] rfl kr (fun cx => ?_)
    refine mB1 tOk K36x5 13 kr kr ?_
    refine lU tOk 1 kr ?_
    refine lF kr kr kr ?_
    exact mD K36x5 [7,4,2] [7,4,2] _ kr kr rfl
  ·refine LAt.cutG tOk (t := 26) (ty := 26) (e := 124) (x := (.tmp 32)) (lo := (some (.tmp 34))) (hi := none) (d := 35) (g := none) (tI 124) Vrow.row x0.Rows ⟨(.box 2),[(0,0)],0,false,3,(CV.frzEs (x0.Rows.map Vrow.row))⟩ (IntKind.wrap .i64 (r1 + 1)) (x0.Rows.length : Int) kr kr kr kr kr kr rfl kr rfl kr kr hg6 ?_
   refine lF kr kr kr ?_
   refine mB1 tOk K36x5 4 kr kr ?_
   refine LAt.cutG tOk (t := 26) (ty := 26) (e := 124) (x := (.tmp 27)) (lo := none) (hi := (some (.tmp 28))) (d := 29) (g := none) (tI 124) Vrow.row x0.Rows ⟨(.box 2),[(0,0)],0,false,3,(CV.frzEs (x0.Rows.map Vrow.row))⟩ 0 r1 kr kr kr kr kr kr rfl kr rfl kr kr hg4 ?_
   refine lF kr kr kr ?_
   refine mB1 tOk K36x5 5 kr kr ?_
   refine LAt.appCU tOk (t := 26) (ty := 26) (e := 124) (x := (.tmp 25)) (y := (.tmp 29)) (d := 30) (g := none) (tI 124) Vrow.row ([] : List Vrow) ((x0.Rows.drop ((0 : Int)).toNat).take (((r1 : Int)).toNat - ((0 : Int)).toNat)) ⟨(.slot 29),[],0,false,3,(CV.frzEs (((x0.Rows.drop ((0 : Int)).toNat).take (((r1 : Int)).toNat - ((0 : Int)).toNat)).map Vrow.row))⟩ kr kr kr kr kr kr kr kr kr kr kr (.inr rfl) (fun _ => rfl) (fun _ => rfl) hg5 ?_
   refine lF kr kr kr ?_
   refine mB1 tOk K36x5 11 kr kr ?_
   refine LAt.appCU tOk (t := 26) (ty := 26) (e := 124) (x := (.tmp 30)) (y := (.tmp 35)) (d := 36) (g := none) (tI 124) Vrow.row (([] : List Vrow) ++ ((x0.Rows.drop ((0 : Int)).toNat).take (((r1 : Int)).toNat - ((0 : Int)).toNat))) ((x0.Rows.drop (((IntKind.wrap .i64 (r1 + 1)) : Int)).toNat).take ((((x0.Rows.length : Int) : Int)).toNat - (((IntKind.wrap .i64 (r1 + 1)) : Int)).toNat)) ⟨(.slot 35),[],0,false,3,(CV.frzEs (((x0.Rows.drop (((IntKind.wrap .i64 (r1 + 1)) : Int)).toNat).take ((((x0.Rows.length : Int) : Int)).toNat - (((IntKind.wrap .i64 (r1 + 1)) : Int)).toNat)).map Vrow.row))⟩ kr kr kr kr kr kr kr kr kr kr kr (.inr rfl) (fun _ => rfl) (fun _ => rfl) hg7 ?_
   refine lF kr kr kr ?_
   refine mU tOk K36x5 [(12,[])] 1 [⟨[10,11,13],26,31,32⟩,⟨[4,5,11,13],26,26,27⟩] [12,11,5,4,10,0,9,8,7,6,3,2,1] rfl kr (fun cx => ?_)
   refine mB1 tOk K36x5 13 kr kr ?_
   refine lU tOk 1 kr ?_
   refine lF kr kr kr ?_
   exact mD K36x5 [7,4,2] [7,4,2] _ kr kr rfl
 ·refine LAt.cutG tOk (t := 26) (ty := 26) (e := 124) (x := (.tmp 27)) (lo := none) (hi := (some (.tmp 28))) (d := 29) (g := none) (tI 124) Vrow.row x0.Rows ⟨(.box 2),[(0,0)],0,false,3,(CV.frzEs (x0.Rows.map Vrow.row))⟩ 0 r1 kr kr kr kr kr kr rfl kr rfl kr kr hg4 ?_
  refine lF kr kr kr ?_
  refine mB2 tOk K36x5 0 10 kr (And.intro kr ?_) (And.intro kr ?_)
  ·refine lU tOk 1 kr ?_
   refine lF kr kr kr ?_
   refine mB2 tOk K36x5 5 10 kr (And.intro kr ?_) (And.intro kr ?_)
   ·refine LAt.appCU tOk (t := 26) (ty := 26) (e := 124) (x := (.tmp 25)) (y := (.tmp 29)) (d := 30) (g := none) (tI 124) Vrow.row ([] : List Vrow) ((x0.Rows.drop ((0 : Int)).toNat).take (((r1 : Int)).toNat - ((0 : Int)).toNat)) ⟨(.slot 29),[],0,false,3,(CV.frzEs (((x0.Rows.drop ((0 : Int)).toNat).take (((r1 : Int)).toNat - ((0 : Int)).toNat)).map Vrow.row))⟩ kr kr kr kr kr kr kr kr kr kr kr (.inr rfl) (fun _ => rfl) (fun _ => rfl) hg5 ?_
    refine lF kr kr kr ?_
    refine mB1 tOk K36x5 10 kr kr ?_
    refine LAt.cutG tOk (t := 26) (ty := 26) (e := 124) (x := (.tmp 32)) (lo := (some (.tmp 34))) (hi := none) (d := 35) (g := none) (tI 124) Vrow.row x0.Rows ⟨(.box 2),[(0,0)],0,false,3,(CV.frzEs (x0.Rows.map Vrow.row))⟩ (IntKind.wrap .i64 (r1 + 1)) (x0.Rows.length : Int) kr kr kr kr kr kr rfl kr rfl kr kr hg6 ?_
    refine lF kr kr kr ?_
    refine mB1 tOk K36x5 11 kr kr ?_
    refine LAt.appCU tOk (t := 26) (ty := 26) (e := 124) (x := (.tmp 30)) (y := (.tmp 35)) (d := 36) (g := none) (tI 124) Vrow.row (([] : List Vrow) ++ ((x0.Rows.drop ((0 : Int)).toNat).take (((r1 : Int)).toNat - ((0 : Int)).toNat))) ((x0.Rows.drop (((IntKind.wrap .i64 (r1 + 1)) : Int)).toNat).take ((((x0.Rows.length : Int) : Int)).toNat - (((IntKind.wrap .i64 (r1 + 1)) : Int)).toNat)) ⟨(.slot 35),[],0,false,3,(CV.frzEs (((x0.Rows.drop (((IntKind.wrap .i64 (r1 + 1)) : Int)).toNat).take ((((x0.Rows.length : Int) : Int)).toNat - (((IntKind.wrap .i64 (r1 + 1)) : Int)).toNat)).map Vrow.row))⟩ kr kr kr kr kr kr kr kr kr kr kr (.inr rfl) (fun _ => rfl) (fun _ => rfl) hg7 ?_
    refine lF kr kr kr ?_
    refine mU tOk K36x5 [(12,[])] 1 [⟨[10,11,13],26,31,32⟩,⟨[4,5,11,13],26,26,27⟩] [12,11,10,5,0,4,9,8,7,6,3,2,1] rfl kr (fun cx => ?_)
    refine mB1 tOk K36x5 13 kr kr ?_
    refine lU tOk 1 kr ?_
    refine lF kr kr kr ?_
    exact mD K36x5 [7,4,2] [7,4,2] _ kr kr rfl
   ·refine LAt.cutG tOk (t := 26) (ty := 26) (e := 124) (x := (.tmp 32)) (lo := (some (.tmp 34))) (hi := none) (d := 35) (g := none) (tI 124) Vrow.row x0.Rows ⟨(.box 2),[(0,0)],0,false,3,(CV.frzEs (x0.Rows.map Vrow.row))⟩ (IntKind.wrap .i64 (r1 + 1)) (x0.Rows.length : Int) kr kr kr kr kr kr rfl kr rfl kr kr hg6 ?_
    refine lF kr kr kr ?_
    refine mB1 tOk K36x5 5 kr kr ?_
    refine LAt.appCU tOk (t := 26) (ty := 26) (e := 124) (x := (.tmp 25)) (y := (.tmp 29)) (d := 30) (g := none) (tI 124) Vrow.row ([] : List Vrow) ((x0.Rows.drop ((0 : Int)).toNat).take (((r1 : Int)).toNat - ((0 : Int)).toNat)) ⟨(.slot 29),[],0,false,3,(CV.frzEs (((x0.Rows.drop ((0 : Int)).toNat).take (((r1 : Int)).toNat - ((0 : Int)).toNat)).map Vrow.row))⟩ kr kr kr kr kr kr kr kr kr kr kr (.inr rfl) (fun _ => rfl) (fun _ => rfl) hg5 ?_
    refine lF kr kr kr ?_
    refine mB1 tOk K36x5 11 kr kr ?_
    refine LAt.appCU tOk (t := 26) (ty := 26) (e := 124) (x := (.tmp 30)) (y := (.tmp 35)) (d := 36) (g := none) (tI 124) Vrow.row (([] : List Vrow) ++ ((x0.Rows.drop ((0 : Int)).toNat).take (((r1 : Int)).toNat - ((0 : Int)).toNat))) ((x0.Rows.drop (((IntKind.wrap .i64 (r1 + 1)) : Int)).toNat).take ((((x0.Rows.length : Int) : Int)).toNat - (((IntKind.wrap .i64 (r1 + 1)) : Int)).toNat)) ⟨(.slot 35),[],0,false,3,(CV.frzEs (((x0.Rows.drop (((IntKind.wrap .i64 (r1 + 1)) : Int)).toNat).take ((((x0.Rows.length : Int) : Int)).toNat - (((IntKind.wrap .i64 (r1 + 1)) : Int)).toNat)).map Vrow.row))⟩ kr kr kr kr kr kr kr kr kr kr kr (.inr rfl) (fun _ => rfl) (fun _ => rfl) hg7 ?_
    refine lF kr kr kr ?_
    refine mU tOk K36x5 [(12,[])] 1 [⟨[10,11,13],26,31,32⟩,⟨[4,5,11,13],26,26,27⟩] [12,11,5,10,0,4,9,8,7,6,3,2,1] rfl kr (fun cx => ?_)
    refine mB1 tOk K36x5 13 kr kr ?_
    refine lU tOk 1 kr ?_
    refine lF kr kr kr ?_
    exact mD K36x5 [7,4,2] [7,4,2] _ kr kr rfl
  ·refine LAt.cutG tOk (t := 26) (ty := 26) (e := 124) (x := (.tmp 32)) (lo := (some (.tmp 34))) (hi := none) (d := 35) (g := none) (tI 124) Vrow.row x0.Rows ⟨(.box 2),[(0,0)],0,false,3,(CV.frzEs (x0.Rows.map Vrow.row))⟩ (IntKind.wrap .i64 (r1 + 1)) (x0.Rows.length : Int) kr kr kr kr kr kr rfl kr rfl kr kr hg6 ?_
   refine lF kr kr kr ?_
   refine mB1 tOk K36x5 0 kr kr ?_
   refine lU tOk 1 kr ?_
   refine lF kr kr kr ?_
   refine mB1 tOk K36x5 5 kr kr ?_
   refine LAt.appCU tOk (t := 26) (ty := 26) (e := 124) (x := (.tmp 25)) (y := (.tmp 29)) (d := 30) (g := none) (tI 124) Vrow.row ([] : List Vrow) ((x0.Rows.drop ((0 : Int)).toNat).take (((r1 : Int)).toNat - ((0 : Int)).toNat)) ⟨(.slot 29),[],0,false,3,(CV.frzEs (((x0.Rows.drop ((0 : Int)).toNat).take (((r1 : Int)).toNat - ((0 : Int)).toNat)).map Vrow.row))⟩ kr kr kr kr kr kr kr kr kr kr kr (.inr rfl) (fun _ => rfl) (fun _ => rfl) hg5 ?_
   refine lF kr kr kr ?_
   refine mB1 tOk K36x5 11 kr kr ?_
   refine LAt.appCU tOk (t := 26) (ty := 26) (e := 124) (x := (.tmp 30)) (y := (.tmp 35)) (d := 36) (g := none) (tI 124) Vrow.row (([] : List Vrow) ++ ((x0.Rows.drop ((0 : Int)).toNat).take (((r1 : Int)).toNat - ((0 : Int)).toNat))) ((x0.Rows.drop (((IntKind.wrap .i64 (r1 + 1)) : Int)).toNat).take ((((x0.Rows.length : Int) : Int)).toNat - (((IntKind.wrap .i64 (r1 + 1)) : Int)).toNat)) ⟨(.slot 35),[],0,false,3,(CV.frzEs (((x0.Rows.drop (((IntKind.wrap .i64 (r1 + 1)) : Int)).toNat).take ((((x0.Rows.length : Int) : Int)).toNat - (((IntKind.wrap .i64 (r1 + 1)) : Int)).toNat)).map Vrow.row))⟩ kr kr kr kr kr kr kr kr kr kr kr (.inr rfl) (fun _ => rfl) (fun _ => rfl) hg7 ?_
   refine lF kr kr kr ?_
   refine mU tOk K36x5 [(12,[])] 1 [⟨[10,11,13],26,31,32⟩,⟨[4,5,11,13],26,26,27⟩] [12,11,5,0,10,4,9,8,7,6,3,2,1] rfl kr (fun cx => ?_)
   refine mB1 tOk K36x5 13 kr kr ?_
   refine lU tOk 1 kr ?_
   refine lF kr kr kr ?_
   exact mD K36x5 [7,4,2] [7,4,2] _ kr kr rfl
 ·refine LAt.cutG tOk (t := 26) (ty := 26) (e := 124) (x := (.tmp 32)) (lo := (some (.tmp 34))) (hi := none) (d := 35) (g := none) (tI 124) Vrow.row x0.Rows ⟨(.box 2),[(0,0)],0,false,3,(CV.frzEs (x0.Rows.map Vrow.row))⟩ (IntKind.wrap .i64 (r1 + 1)) (x0.Rows.length : Int) kr kr kr kr kr kr rfl kr rfl kr kr hg6 ?_
  refine lF kr kr kr ?_
  refine mB2 tOk K36x5 0 4 kr (And.intro kr ?_) (And.intro kr ?_)
  ·refine lU tOk 1 kr ?_
   refine lF kr kr kr ?_
   refine mB1 tOk K36x5 4 kr kr ?_
   refine LAt.cutG tOk (t := 26) (ty := 26) (e := 124) (x := (.tmp 27)) (lo := none) (hi := (some (.tmp 28))) (d := 29) (g := none) (tI 124) Vrow.row x0.Rows ⟨(.box 2),[(0,0)],0,false,3,(CV.frzEs (x0.Rows.map Vrow.row))⟩ 0 r1 kr kr kr kr kr kr rfl kr rfl kr kr hg4 ?_
   refine lF kr kr kr ?_
   refine mB1 tOk K36x5 5 kr kr ?_
   refine LAt.appCU tOk (t := 26) (ty := 26) (e := 124) (x := (.tmp 25)) (y := (.tmp 29)) (d := 30) (g := none) (tI 124) Vrow.row ([] : List Vrow) ((x0.Rows.drop ((0 : Int)).toNat).take (((r1 : Int)).toNat - ((0 : Int)).toNat)) ⟨(.slot 29),[],0,false,3,(CV.frzEs (((x0.Rows.drop ((0 : Int)).toNat).take (((r1 : Int)).toNat - ((0 : Int)).toNat)).map Vrow.row))⟩ kr kr kr kr kr kr kr kr kr kr kr (.inr rfl) (fun _ => rfl) (fun _ => rfl) hg5 ?_
   refine lF kr kr kr ?_
   refine mB1 tOk K36x5 11 kr kr ?_
   refine LAt.appCU tOk (t := 26) (ty := 26) (e := 124) (x := (.tmp 30)) (y := (.tmp 35)) (d := 36) (g := none) (tI 124) Vrow.row (([] : List Vrow) ++ ((x0.Rows.drop ((0 : Int)).toNat).take (((r1 : Int)).toNat - ((0 : Int)).toNat))) ((x0.Rows.drop (((IntKind.wrap .i64 (r1 + 1)) : Int)).toNat).take ((((x0.Rows.length : Int) : Int)).toNat - (((IntKind.wrap .i64 (r1 + 1)) : Int)).toNat)) ⟨(.slot 35),[],0,false,3,(CV.frzEs (((x0.Rows.drop (((IntKind.wrap .i64 (r1 + 1)) : Int)).toNat).take ((((x0.Rows.length : Int) : Int)).toNat - (((IntKind.wrap .i64 (r1 + 1)) : Int)).toNat)).map Vrow.row))⟩ kr kr kr kr kr kr kr kr kr kr kr (.inr rfl) (fun _ => rfl) (fun _ => rfl) hg7 ?_
   refine lF kr kr kr ?_
   refine mU tOk K36x5 [(12,[])] 1 [⟨[10,11,13],26,31,32⟩,⟨[4,5,11,13],26,26,27⟩] [12,11,5,4,0,10,9,8,7,6,3,2,1] rfl kr (fun cx => ?_)
   refine mB1 tOk K36x5 13 kr kr ?_
   refine lU tOk 1 kr ?_
   refine lF kr kr kr ?_
   exact mD K36x5 [7,4,2] [7,4,2] _ kr kr rfl
  ·refine LAt.cutG tOk (t := 26) (ty := 26) (e := 124) (x := (.tmp 27)) (lo := none) (hi := (some (.tmp 28))) (d := 29) (g := none) (tI 124) Vrow.row x0.Rows ⟨(.box 2),[(0,0)],0,false,3,(CV.frzEs (x0.Rows.map Vrow.row))⟩ 0 r1 kr kr kr kr kr kr rfl kr rfl kr kr hg4 ?_
   refine lF kr kr kr ?_
   refine mB1 tOk K36x5 0 kr kr ?_
   refine lU tOk 1 kr ?_
   refine lF kr kr kr ?_
   refine mB1 tOk K36x5 5 kr kr ?_
   refine LAt.appCU tOk (t := 26) (ty := 26) (e := 124) (x := (.tmp 25)) (y := (.tmp 29)) (d := 30) (g := none) (tI 124) Vrow.row ([] : List Vrow) ((x0.Rows.drop ((0 : Int)).toNat).take (((r1 : Int)).toNat - ((0 : Int)).toNat)) ⟨(.slot 29),[],0,false,3,(CV.frzEs (((x0.Rows.drop ((0 : Int)).toNat).take (((r1 : Int)).toNat - ((0 : Int)).toNat)).map Vrow.row))⟩ kr kr kr kr kr kr kr kr kr kr kr (.inr rfl) (fun _ => rfl) (fun _ => rfl) hg5 ?_
   refine lF kr kr kr ?_
   refine mB1 tOk K36x5 11 kr kr ?_
   refine LAt.appCU tOk (t := 26) (ty := 26) (e := 124) (x := (.tmp 30)) (y := (.tmp 35)) (d := 36) (g := none) (tI 124) Vrow.row (([] : List Vrow) ++ ((x0.Rows.drop ((0 : Int)).toNat).take (((r1 : Int)).toNat - ((0 : Int)).toNat))) ((x0.Rows.drop (((IntKind.wrap .i64 (r1 + 1)) : Int)).toNat).take ((((x0.Rows.length : Int) : Int)).toNat - (((IntKind.wrap .i64 (r1 + 1)) : Int)).toNat)) ⟨(.slot 35),[],0,false,3,(CV.frzEs (((x0.Rows.drop (((IntKind.wrap .i64 (r1 + 1)) : Int)).toNat).take ((((x0.Rows.length : Int) : Int)).toNat - (((IntKind.wrap .i64 (r1 + 1)) : Int)).toNat)).map Vrow.row))⟩ kr kr kr kr kr kr kr kr kr kr kr (.inr rfl) (fun _ => rfl) (fun _ => rfl) hg7 ?_
   refine lF kr kr kr ?_
   refine mU tOk K36x5 [(12,[])] 1 [⟨[10,11,13],26,31,32⟩,⟨[4,5,11,13],26,26,27⟩] [12,11,5,0,4,10,9,8,7,6,3,2,1] rfl kr (fun cx => ?_)
   refine mB1 tOk K36x5 13 kr kr ?_
   refine lU tOk 1 kr ?_
   refine lF kr kr kr ?_
   exact mD K36x5 [7,4,2] [7,4,2] _ kr kr rfl
theorem spec_DropRow (n : Nat) (x0 : Vtab) (x1 : Int) (r : Vtab × Bool) (H : spec_DropRowF n x0 x1 = some r) : LCall Try.prog 36 [.val true (CV.frzRow (Vtab.row x0)),.val false [.lit (.int .i64 x1)]] [.val true (Vtab.row r.1),.val false [.lit (.bool r.2)]] [] := by
 refine LCall.of_body tOk Try.func36 rfl (c := (.seq (G36 0) (.seq (G36 1) (.seq (.seq (G36 2) (.cond (.tmp 20) (.seq (G36 3) .ret) .skip)) (.seq (G36 4) (.seq (D36 5) (.seq (G36 6) .ret))))))) kr (Nat.le_of_ble_eq_true kr) 0 (rs := [.cell 4 29,.tmp 5]) rfl [] .nil [(true,(Vtab.row r.1)),(false,[.lit (.bool r.2)])] [] [] fun cx => ?_
 show Tr _ _ _ ⟨43,0,[sV 0 (CV.frzRow (Vtab.row x0)),sI 1 x1],[]⟩ _
 unfold spec_DropRowF at H
 refine tG tOk 3 22 20 kr kr ?_
 refine rU tOk 2 kr ?_
 obtain ⟨r1,er1,H⟩ := bind_some H
 refine lV tOk [.rd,.rd] [] (spec_RowAt n x0 x1 r1 er1) kr kr kr kr (.inl rfl) ?_
 refine uD tOk 1 84 20 kr kr ?_
 refine tS ?_
 refine rU tOk 3 kr ?_
 refine lL tOk 27 3 3 13 14 none ⟨(.slot 13),[],0,false,1,(CV.frzEs (x0.Pvid.map intRow))⟩ (x0.Pvid).length _ kr kr kr kr kr (frz_len _ _) rfl ?_
 obtain ⟨r2,er2,H⟩ := bind_some H
 refine lV tOk [.rd,.rd] [] (spec_VtabOk n x0 (x0.Pvid.length : Int) r2 er2) kr kr kr kr (.inl rfl) ?_
 refine lU tOk 2 kr ?_
 refine lT ⟨43,0,[sB 17 (!r2),sB 16 (!r2),sB 15 r2,sI 14 (x0.Pvid.length : Int),sC 13 (cF 1 x0.Pvid intRow),sA 12 2 2 1,sV 11 (CV.frzRow (Vtab.row x0)),sI 6 r1,sA 4 4 2 0,sA 2 2 2 0],[(4,[cL 3 ([] : List Vrow) Vrow.row,cL 1 ([] : List Int) intRow]),(2,(CV.frzRow (Vtab.row x0)))]⟩ kr ?_
 cases h1 : (!r2)
 ·have H := bifF h1 H
  refine uD tOk 3 1048660 20 kr kr ?_
  obtain ⟨h2,H⟩ | ⟨h2,H⟩ := bC H
  ·refine tF h2 kr ?_
   refine tK ?_
   refine rU tOk 1 kr ?_
   obtain ⟨r3,er3,H⟩ := bind_some H
   refine lV tOk [.rd] [] (spec_l9Copy n x0 r3 er3) kr kr kr kr (.inl rfl) ?_
   refine uD tOk 2 212 148 kr kr ?_
   obtain ⟨hg4,H⟩ := guard_some H
   obtain ⟨hg5,H⟩ := guard_some H
   obtain ⟨hg6,H⟩ := guard_some H
   obtain ⟨hg7,H⟩ := guard_some H
   refine tO ⟨43,0,[sA 7 7 2 0,sI 6 r1,sA 4 4 2 0,sA 2 2 2 0],[(7,(Vtab.row r3)),(4,[cL 3 ([] : List Vrow) Vrow.row,cL 1 ([] : List Int) intRow]),(2,(CV.frzRow (Vtab.row x0)))]⟩ kr ?_
   refine Tr.draws mixed 14 kr ⟨43,0,[sA 7 7 2 0,sA 4 4 2 0,sA 2 2 2 0],[(7,[cL 3 ((([] : List Vrow) ++ ((x0.Rows.drop ((0 : Int)).toNat).take (((r1 : Int)).toNat - ((0 : Int)).toNat))) ++ ((x0.Rows.drop (((IntKind.wrap .i64 (r1 + 1)) : Int)).toNat).take ((((x0.Rows.length : Int) : Int)).toNat - (((IntKind.wrap .i64 (r1 + 1)) : Int)).toNat))) Vrow.row,cL 1 r3.Pvid intRow]),(4,[cL 3 ([] : List Vrow) Vrow.row,cL 1 ([] : List Int) intRow]),(2,(CV.frzRow (Vtab.row x0)))]⟩ (spec_DropRow_D1 n x0 r1 r3 hg4 hg5 hg6 hg7) ?_
   refine rU tOk 2 kr ?_
   obtain ⟨r8,er8,H⟩ := bind_some H
   refine lV tOk [.own,.rd] [] (spec_l9Or n (⟨((([] : List Vrow) ++ ((x0.Rows.drop ((0 : Int)).toNat).take (((r1 : Int)).toNat - ((0 : Int)).toNat))) ++ ((x0.Rows.drop (((IntKind.wrap .i64 (r1 + 1)) : Int)).toNat).take ((((x0.Rows.length : Int) : Int)).toNat - (((IntKind.wrap .i64 (r1 + 1)) : Int)).toNat))),r3.Pvid⟩ : Vtab) x0 r8 er8) kr kr kr kr (.inl rfl) ?_
   refine uD tOk 4 48 16 kr kr ?_
   exact te (by obtain rfl := si H; exact fO [(true,(Vtab.row r8.1)),(false,[cB r8.2])] kr rfl rfl)
  refine tT h2 kr ?_
  refine rU tOk 1 kr ?_
  obtain ⟨r9,er9,H⟩ := bind_some H
  refine lV tOk [.rd] [] (spec_l9Copy n x0 r9 er9) kr kr kr kr (.inl rfl) ?_
  refine uD tOk 2 48 16 kr kr ?_
  exact te (by obtain rfl := si H; exact fO [(true,(Vtab.row r9)),(false,[cB false])] kr rfl rfl)
 have H := bifT h1 H
 refine uD tOk 3 1048660 20 kr kr ?_
 refine tt kr ?_
 refine rU tOk 1 kr ?_
 obtain ⟨r10,er10,H⟩ := bind_some H
 refine lV tOk [.rd] [] (spec_l9Copy n x0 r10 er10) kr kr kr kr (.inl rfl) ?_
 refine uD tOk 2 48 16 kr kr ?_
 exact te (by obtain rfl := si H; exact fO [(true,(Vtab.row r10)),(false,[cB false])] kr rfl rfl)
def spec_l9Row2F (n : Nat) (x0 : Src) (x1 : Int) : Option (Vrow × Src) :=
  (bif (decide ((0 : Int) ≤ (IntKind.wrap .u64 x1))) then ((spec_l1BelowF n x0 (IntKind.wrap .i64 ((IntKind.wrap .i64 ((IntKind.wrap .i64 (1 * 2 ^ min (((IntKind.wrap .u64 x1) : Int)).toNat (IntKind.bits .i64))) - 1)) + 1))).bind fun r2 => ((spec_l1IntF n r2.2 [1,2,3,2]).bind fun r3 => ((spec_l1BelowF n r3.2 (IntKind.wrap .i64 ((IntKind.wrap .i64 ((IntKind.wrap .i64 (1 * 2 ^ min (((IntKind.wrap .u64 x1) : Int)).toNat (IntKind.bits .i64))) - 1)) + 1))).bind fun r4 => (some ((⟨r3.1,r2.1,(IntKind.wrap .i64 (BitVec.ofInt (IntKind.bits .i64) r2.1 &&& BitVec.ofInt (IntKind.bits .i64) r4.1).toNat)⟩ : Vrow),r4.2))))) else none)
noncomputable abbrev G158 (k : Nat) := Rg Try.f158 k
theorem spec_l9Row2 (n : Nat) (x0 : Src) (x1 : Int) (r : Vrow × Src) (H : spec_l9Row2F n x0 x1 = some r) : LCall Try.prog 158 [.ptr (CV.frzRow (Src.row x0)),.val false [.lit (.int .i64 x1)]] [.val true (Vrow.row r.1)] [(0,(CV.frzRow (Src.row r.2)))] := by
 refine LCall.of_body tOk Try.func158 rfl (c := (.seq (G158 0) (.seq (G158 1) (.seq (G158 2) (.seq (G158 3) .ret))))) kr (Nat.le_of_ble_eq_true kr) 1 (rs := [.cell 4 124]) rfl [] .nil [(true,(Vrow.row r.1))] [] [(0,(CV.frzRow (Src.row r.2)))] fun cx => ?_
 show Tr _ _ _ ⟨26,1,[sA 0 0 3 0,sI 1 x1],[(0,(CV.frzRow (Src.row x0)))]⟩ _
 unfold spec_l9Row2F at H
 refine tG tOk 1 19 17 kr kr ?_
 refine rU tOk 2 kr ?_
 obtain ⟨hg1,H⟩ := guard_some H
 refine LAt.binC tOk (op := .shl) (t := 3) (ty := 112) (ty' := 3) (x := (.const (.int .i64 1))) (y := (.tmp 8)) (d := 9) (g := none) (.int .i64 1) (.int .u64 (IntKind.wrap .u64 x1)) (.int .i64 (IntKind.wrap .i64 (1 * 2 ^ min (((IntKind.wrap .u64 x1) : Int)).toNat (IntKind.bits .i64)))) _ kr kr kr kr kr (φ := (0 : Int) ≤ (IntKind.wrap .u64 x1)) kr (of_decide_eq_true hg1) rfl ?_
 refine uD tOk 2 49 17 kr kr ?_
 refine rU tOk 3 kr ?_
 obtain ⟨r2,er2,H⟩ := bind_some H
 refine LAt.callL tOk [.lend,.rd] (f := 54) (av := #[.tmp 11,.tmp 13]) (ats := #[100,3]) (d := (some 14)) (ty := 3) (g := none) kr kr kr [] (spec_l1Below n x0 (IntKind.wrap .i64 ((IntKind.wrap .i64 ((IntKind.wrap .i64 (1 * 2 ^ min (((IntKind.wrap .u64 x1) : Int)).toNat (IntKind.bits .i64))) - 1)) + 1)) r2 er2) kr (.inl rfl) ?_
 refine uD tOk 1 113 17 kr kr ?_
 refine rU tOk 2 kr ?_
 obtain ⟨r3,er3,H⟩ := bind_some H
 refine LAt.callL tOk [.lend,.rd] (f := 56) (av := #[.tmp 15,.tmp 16]) (ats := #[100,27]) (d := (some 17)) (ty := 3) (g := none) kr kr kr [] (spec_l1Int n r2.2 [1,2,3,2] r3 er3) kr (.inl rfl) ?_
 refine lU tOk 5 kr ?_
 obtain ⟨r4,er4,H⟩ := bind_some H
 refine LAt.callL tOk [.lend,.rd] (f := 54) (av := #[.tmp 20,.tmp 22]) (ats := #[100,3]) (d := (some 23)) (ty := 3) (g := none) kr kr kr [] (spec_l1Below n r3.2 (IntKind.wrap .i64 ((IntKind.wrap .i64 ((IntKind.wrap .i64 (1 * 2 ^ min (((IntKind.wrap .u64 x1) : Int)).toNat (IntKind.bits .i64))) - 1)) + 1)) r4 er4) kr (.inl rfl) ?_
 refine uD tOk 3 17 17 kr kr ?_
 refine te ?_
 obtain rfl := si H
 exact Fin.ofY _ [(true,[cI r3.1,cI r2.1,cI (IntKind.wrap .i64 (BitVec.ofInt (IntKind.bits .i64) r2.1 &&& BitVec.ofInt (IntKind.bits .i64) r4.1).toNat)])] [] _ [] _ [(0,(CV.frzRow (Src.row r4.2)))] kr rfl rfl rfl kr kr kr kr rfl rfl rfl
def spec_l9Row_J1 (n : Nat) (x0 : Vtab) (x1 : Vrow) (y5 : Bool) (y6 : (List Vrow)) : Option (Vtab) :=
  (bif (!y5) then (bif (decide (y6.length + [x1].length ≤ 268435456)) then (some (⟨(y6 ++ [x1]),(([] : List Int) ++ x0.Pvid)⟩ : Vtab)) else none) else (some (⟨y6,(([] : List Int) ++ x0.Pvid)⟩ : Vtab)))
def spec_l9Row_J3 (n : Nat) (k : (Int × Bool × (List Vrow) → Option ((Bool × (List Vrow)) ⊕ (Vtab)))) (x0 : Vtab) (x1 : Vrow) (y2 : Int) (y9 : Bool) (y10 : Bool) (y11 : Bool) (y12 : Bool) (y13 : (List Vrow)) : Option ((Bool × (List Vrow)) ⊕ (Vtab)) :=
  ((idx x0.Rows y2).bind fun v14 => (bif (v14.Id != x1.Id) then ((idx x0.Rows y2).bind fun v15 => (bif (decide (y13.length + [v15].length ≤ 268435456)) then (k ((IntKind.wrap .i64 (y2 + 1)),y12,(y13 ++ [v15]))) else none)) else (k ((IntKind.wrap .i64 (y2 + 1)),y12,y13))))
def spec_l9Row_L2 (n : Nat) : Nat → Vtab → Vrow → Int → Bool → (List Vrow) → Option ((Bool × (List Vrow)) ⊕ (Vtab))
  | 0,_,_,_,_,_ => none
  | mo8 + 1,x0,x1,y2,y3,y4 => (bif (decide (y2 < (x0.Rows.length : Int))) then (bif (!y3) then ((idx x0.Rows y2).bind fun v17 => (bif (decide (v17.Id ≥ x1.Id)) then (bif (decide (y4.length + [x1].length ≤ 268435456)) then (spec_l9Row_J3 n (fun v => spec_l9Row_L2 n mo8 x0 x1 v.1 v.2.1 v.2.2) x0 x1 y2 true true true true (y4 ++ [x1])) else none) else (spec_l9Row_J3 n (fun v => spec_l9Row_L2 n mo8 x0 x1 v.1 v.2.1 v.2.2) x0 x1 y2 false true true y3 y4))) else (spec_l9Row_J3 n (fun v => spec_l9Row_L2 n mo8 x0 x1 v.1 v.2.1 v.2.2) x0 x1 y2 false false false y3 y4)) else (some (Sum.inl (y3,y4))))
def spec_l9RowF (n : Nat) (x0 : Vtab) (x1 : Vrow) : Option (Vtab) :=
  (bif (decide (([] : List Int).length + x0.Pvid.length ≤ 268435456)) then ((spec_l9Row_L2 n n x0 x1 0 false ([] : List Vrow)).bind fun o => match o with | .inl (y5,y6) => (spec_l9Row_J1 n x0 x1 y5 y6) | .inr r => some r) else none)
def T154x6 : Tab := ⟨13,[0,1,2,4,12,4,52,68,132,4,516,1284,2052],[0,1,2,4,12,4,52,68,132,4,516,1284,2052],[0,1,3,7,15,7,63,127,255,7,519,2047,4095]⟩
noncomputable abbrev G154 (k : Nat) := Rg Try.f154 k
noncomputable abbrev D154 (k : Nat) := Rd Try.f154 k
theorem K154x6 : tabOk (rg Try.f154 6) T154x6 = true := kr
def T154x9 : Tab := ⟨9,[0,1,0,6,8,16,0,64,160],[0,1,0,6,8,16,0,64,160],[0,1,0,7,15,31,0,64,255]⟩
theorem K154x9 : tabOk (rg Try.f154 9) T154x9 = true := kr
def T154x10 : Tab := ⟨11,[0,1,0,4,0,24,32,64,130,511,1023],[0,1,0,4,0,24,32,64,130,0,768],[0,1,0,4,0,28,60,124,255,511,1023]⟩
theorem K154x10 : tabOk (rg Try.f154 10) T154x10 = true := kr
theorem spec_l9Row_D1 (n : Nat) (x0 : Vtab) (y2 : Int) (v15 : Vrow) (y13 : (List Vrow)) (x1 : Vrow) (v14 : Vrow) (y9 : Bool) (y10 : Bool) (y11 : Bool) (y3 : Bool) (y12 : Bool) (ev15 : (idx x0.Rows y2) = some v15) (hg16 : (decide (y13.length + [v15].length ≤ 268435456)) = true) (cx : Cx) : AT Try.prog cx (rg Try.f154 10) [] 11 [] ⟨67,0,[sB 47 true,sI 46 x1.Id,sA 45 3 3 0,sI 44 v14.Id,(43,.fad ((Vrow.row v14))),(42,.fad ((Vrow.row v14))),sI 41 y2,sR 40 2 2 0 1 false,sA 39 2 2 0,sB 32 y9,sB 22 y10,sB 21 y11,sB 20 y3,sB 17 true,sI 16 (x0.Rows.length : Int),sC 15 (cF 3 x0.Rows Vrow.row),sA 14 2 2 0,sI 13 y2,sI 7 y2,sB 6 y12,sA 5 5 2 0,sA 4 4 2 0,sA 3 3 3 0,sA 2 2 2 0],[(5,[cL 3 y13 Vrow.row,cL 1 (([] : List Int) ++ x0.Pvid) intRow]),(4,[cL 3 ([] : List Vrow) Vrow.row,cL 1 ([] : List Int) intRow]),(3,(Vrow.row x1)),(2,(CV.frzRow (Vtab.row x0)))]⟩ (fun s => s = ⟨67,0,[sA 57 5 2 0,sV 54 (Vrow.row v15),(53,.fad ((Vrow.row v15))),sI 52 y2,sR 51 2 2 0 1 false,sA 50 2 2 0,sA 48 5 2 0,sB 47 true,sI 46 x1.Id,sA 45 3 3 0,sI 44 v14.Id,(43,.fad ((Vrow.row v14))),(42,.fad ((Vrow.row v14))),sI 41 y2,sR 40 2 2 0 1 false,sA 39 2 2 0,sB 32 y9,sB 22 y10,sB 21 y11,sB 20 y3,sB 17 true,sI 16 (x0.Rows.length : Int),sC 15 (cF 3 x0.Rows Vrow.row),sA 14 2 2 0,sI 13 y2,sI 7 y2,sB 6 y12,sA 5 5 2 0,sA 4 4 2 0,sA 3 3 3 0,sA 2 2 2 0],[(5,[cL 3 (y13 ++ [v15]) Vrow.row,cL 1 (([] : List Int) ++ x0.Pvid) intRow]),(4,[cL 3 ([] : List Vrow) Vrow.row,cL 1 ([] : List Int) intRow]),(3,(Vrow.row x1)),(2,(CV.frzRow (Vtab.row x0)))]⟩) := by
 refine mU tOk K154x10 [(0,[]),(1,[8,10]),(2,[]),(3,[7,8,10]),(4,[])] 6 [⟨[7,8,10],26,50,51⟩,⟨[8,10],26,48,49⟩] [4,3,2,1,0] rfl kr (fun cx => ?_)
 refine aI tOk 5 26 0 51 52 53 none ⟨(.box 2),[(0,0)],0,false,3,(CV.frzEs (x0.Rows.map Vrow.row))⟩ y2 (Vrow.row v15) _ kr (oM K154x10 kr) (dM K154x10 kr) kr kr kr rfl (idx_isF ev15) rfl (fun cx => ?_)
 refine mU tOk K154x10 [(6,[])] 4 [⟨[7,8,10],26,50,51⟩,⟨[8,10],26,48,49⟩] [6,5,4,3,2,1,0] rfl kr (fun cx => ?_)
 refine mB1 tOk K154x10 7 kr kr ?_
 refine lU tOk 1 kr ?_
 refine lF kr kr kr ?_
 refine mB1 tOk K154x10 8 kr kr ?_
 refine LAt.appMU tOk (t := 26) (ty := 26) (e := 124) (x := (.tmp 49)) (y := (.tmp 55)) (d := 56) (g := none) (tI 124) Vrow.row y13 [v15] kr kr kr kr kr kr kr kr kr kr hg16 ?_
 refine lF kr kr kr ?_
 refine mU tOk K154x10 [(9,[])] 1 [⟨[7,8,10],26,50,51⟩,⟨[8,10],26,48,49⟩] [9,8,7,6,5,4,3,2,1,0] rfl kr (fun cx => ?_)
 refine mB1 tOk K154x10 10 kr kr ?_
 refine lU tOk 1 kr ?_
 refine lF kr kr kr ?_
 exact mD K154x10 [57,54,53,52,51,50,48,47,46,45,44,43,42,41,40,39,32,22,21,20,17,16,15,14,13,7,6,5,4,3,2] [5,4,3,2] _ kr kr rfl
theorem spec_l9Row (n : Nat) (x0 : Vtab) (x1 : Vrow) (r : Vtab) (H : spec_l9RowF n x0 x1 = some r) : LCall Try.prog 154 [.val true (CV.frzRow (Vtab.row x0)),.val true (CV.frzRow (Vrow.row x1))] [.val true (Vtab.row r)] [] := by
 refine LCall.of_body tOk Try.func154 rfl (c := (.seq (G154 0) (.seq (G154 1) (.seq (G154 2) (.seq (.seq (G154 3) (.block 0 (.loop (.seq (.seq (G154 4) (.cond (.tmp 17) .skip (.exit 0))) (.seq (.block 1 (.seq (.seq (D154 6) (.cond (.tmp 32) (.seq (G154 7) (G154 8)) .skip)) (.seq (D154 9) (.cond (.tmp 47) (D154 10) .skip)))) (G154 5)))))) (.seq (.seq (G154 11) (.cond (.tmp 59) (G154 12) .skip)) (.seq (G154 13) .ret))))))) kr (Nat.le_of_ble_eq_true kr) 0 (rs := [.cell 4 29]) rfl [] .nil [(true,(Vtab.row r))] [] [] fun cx => ?_
 show Tr _ _ _ ⟨67,0,[sV 0 (CV.frzRow (Vtab.row x0)),sV 1 (Vrow.row x1)],[]⟩ _
 unfold spec_l9RowF at H
 refine tG tOk 3 28 28 kr kr ?_
 refine rU tOk 3 kr ?_
 obtain ⟨hg1,H⟩ := guard_some H
 refine LAt.appCU tOk (t := 27) (ty := 27) (e := 3) (x := (.tmp 8)) (y := (.tmp 10)) (d := 11) (g := none) (tI 3) intRow ([] : List Int) x0.Pvid ⟨(.slot 10),[],0,false,1,(CV.frzEs (x0.Pvid.map intRow))⟩ kr kr kr kr kr kr kr kr kr kr kr (.inr rfl) (fun _ => rfl) (fun _ => rfl) hg1 ?_
 refine uD tOk 3 60 60 kr kr ?_
 refine tG tOk 1 124 60 kr kr ?_
 refine tS ?_
 refine tG tOk 1 252 60 kr kr ?_
 obtain ⟨o8,eo8,Ho8⟩ := bind_some H
 clear H
 refine Tr.mid (ι := Bool × (List Vrow)) (fun v => ⟨67,0,[sB 6 v.1,sA 5 5 2 0,sA 4 4 2 0,sA 3 3 3 0],[(5,[cL 3 v.2 Vrow.row,cL 1 (([] : List Int) ++ x0.Pvid) intRow]),(4,[cL 3 ([] : List Vrow) Vrow.row,cL 1 ([] : List Int) intRow]),(3,(Vrow.row x1))]⟩) (fun v => spec_l9Row_J1 n x0 x1 v.1 v.2 = some r) ?_ ?_
 ·refine tB ?_
  refine Tr.loop (ι := Nat × (Int × Bool × (List Vrow))) (fun v => ⟨67,0,[sI 7 v.2.1,sB 6 v.2.2.1,sA 5 5 2 0,sA 4 4 2 0,sA 3 3 3 0,sA 2 2 2 0],[(5,[cL 3 v.2.2.2 Vrow.row,cL 1 (([] : List Int) ++ x0.Pvid) intRow]),(4,[cL 3 ([] : List Vrow) Vrow.row,cL 1 ([] : List Int) intRow]),(3,(Vrow.row x1)),(2,(CV.frzRow (Vtab.row x0)))]⟩) (fun v => spec_l9Row_L2 n v.1 x0 x1 v.2.1 v.2.2.1 v.2.2.2 = some o8) (fun v => v.1) (n,(0,false,([] : List Vrow))) eo8 (St.sub_of [7,6,5,4,3,2] [5,4,3,2] kr) ?_
  rintro ⟨mo8,y2,y3,y4⟩ H
  have H : spec_l9Row_L2 n mo8 x0 x1 y2 y3 y4 = some o8 := H
  obtain _ | mo8 := mo8
  ·cases (show (none : Option _) = some o8 from H)
  rw [spec_l9Row_L2] at H
  refine tS ?_
  refine rU tOk 3 kr ?_
  refine lL tOk 26 3 124 15 16 none ⟨(.slot 15),[],0,false,3,(CV.frzEs (x0.Rows.map Vrow.row))⟩ (x0.Rows).length _ kr kr kr kr kr (frz_len _ _) rfl ?_
  refine uD tOk 1 254204 60 kr kr ?_
  obtain ⟨h2,H⟩ | ⟨h2,H⟩ := bC H
  ·refine tF h2 kr ?_
   refine Tr.exit ?_
   refine And.intro (fun _ => ?_) (fun h => absurd rfl h)
   obtain rfl := si H
   have H := Ho8
   dsimp only at H
   exact jn (y3,y4) H (sB_ [6,5,4,3] [5,4,3] kr)
  refine tT h2 kr ?_
  refine tK ?_
  refine tS ?_
  refine tB ?_
  refine tS ?_
  refine Tr.mid (ι := Bool × Bool × Bool × Bool × (List Vrow)) (fun v => ⟨67,0,[sB 32 v.1,sB 22 v.2.1,sB 21 v.2.2.1,sB 20 y3,sB 17 true,sI 16 (x0.Rows.length : Int),sC 15 (cF 3 x0.Rows Vrow.row),sA 14 2 2 0,sI 13 y2,sI 7 y2,sB 6 v.2.2.2.1,sA 5 5 2 0,sA 4 4 2 0,sA 3 3 3 0,sA 2 2 2 0],[(5,[cL 3 v.2.2.2.2 Vrow.row,cL 1 (([] : List Int) ++ x0.Pvid) intRow]),(4,[cL 3 ([] : List Vrow) Vrow.row,cL 1 ([] : List Int) intRow]),(3,(Vrow.row x1)),(2,(CV.frzRow (Vtab.row x0)))]⟩) (fun v => spec_l9Row_J3 n (fun v => spec_l9Row_L2 n mo8 x0 x1 v.1 v.2.1 v.2.2) x0 x1 y2 v.1 v.2.1 v.2.2.1 v.2.2.2.1 v.2.2.2.2 = some o8) ?_ ?_
  ·refine tS ?_
   refine tO ⟨67,0,[sB 17 (decide (y2 < (x0.Rows.length : Int))),sI 16 (x0.Rows.length : Int),sC 15 (cF 3 x0.Rows Vrow.row),sA 14 2 2 0,sI 13 y2,sI 7 y2,sB 6 y3,sA 5 5 2 0,sA 4 4 2 0,sA 3 3 3 0,sA 2 2 2 0],[(5,[cL 3 y4 Vrow.row,cL 1 (([] : List Int) ++ x0.Pvid) intRow]),(4,[cL 3 ([] : List Vrow) Vrow.row,cL 1 ([] : List Int) intRow]),(3,(Vrow.row x1)),(2,(CV.frzRow (Vtab.row x0)))]⟩ kr ?_
   cases h4 : (!y3)
   ·have H := bifF h4 H
    refine Tr.draw mixed 13 kr ⟨67,0,[sB 32 false,(31,.tup []),(30,.tup []),(29,.tup []),(28,.tup []),(27,.tup []),(26,.tup []),(25,.tup []),(24,.tup []),(23,.tup []),sB 22 false,sB 21 false,sB 20 y3,sB 17 (decide (y2 < (x0.Rows.length : Int))),sI 16 (x0.Rows.length : Int),sC 15 (cF 3 x0.Rows Vrow.row),sA 14 2 2 0,sI 13 y2,sI 7 y2,sB 6 y3,sA 5 5 2 0,sA 4 4 2 0,sA 3 3 3 0,sA 2 2 2 0],[(5,[cL 3 y4 Vrow.row,cL 1 (([] : List Int) ++ x0.Pvid) intRow]),(4,[cL 3 ([] : List Vrow) Vrow.row,cL 1 ([] : List Int) intRow]),(3,(Vrow.row x1)),(2,(CV.frzRow (Vtab.row x0)))]⟩ (fun cx => ?_) ?_
    ·refine mU tOk K154x6 [(0,[]),(1,[]),(2,[])] 10 [] [2,1,0] rfl kr (fun cx => ?_)
     refine aT ⟨67,0,[sB 22 (!y3),sB 21 (!y3),sB 20 y3,sB 17 (decide (y2 < (x0.Rows.length : Int))),sI 16 (x0.Rows.length : Int),sC 15 (cF 3 x0.Rows Vrow.row),sA 14 2 2 0,sI 13 y2,sI 7 y2,sB 6 y3,sA 5 5 2 0,sA 4 4 2 0,sA 3 3 3 0,sA 2 2 2 0],[(5,[cL 3 y4 Vrow.row,cL 1 (([] : List Int) ++ x0.Pvid) intRow]),(4,[cL 3 ([] : List Vrow) Vrow.row,cL 1 ([] : List Int) intRow]),(3,(Vrow.row x1)),(2,(CV.frzRow (Vtab.row x0)))]⟩ kr ?_
     rw [h4]
     refine mU tOk K154x6 [(3,[]),(4,[]),(5,[]),(6,[]),(7,[]),(8,[]),(9,[]),(10,[]),(11,[]),(12,[])] 0 [] [12,11,10,9,8,7,6,5,4,3,2,1,0] rfl kr (fun cx => ?_)
     exact mD K154x6 [32,31,30,29,28,27,26,25,24,23,22,21,20,17,16,15,14,13,7,6,5,4,3,2] [5,4,3,2] _ kr kr rfl
    refine tf kr ?_
    refine tK ?_
    refine Sb.to ⟨67,0,[sB 32 false,(31,.tup []),(30,.tup []),(29,.tup []),(28,.tup []),(27,.tup []),(26,.tup []),(25,.tup []),(24,.tup []),(23,.tup []),sB 22 false,sB 21 false,sB 20 y3,sB 17 (decide (y2 < (x0.Rows.length : Int))),sI 16 (x0.Rows.length : Int),sC 15 (cF 3 x0.Rows Vrow.row),sA 14 2 2 0,sI 13 y2,sI 7 y2,sB 6 y3,sA 5 5 2 0,sA 4 4 2 0,sA 3 3 3 0,sA 2 2 2 0],[(5,[cL 3 y4 Vrow.row,cL 1 (([] : List Int) ++ x0.Pvid) intRow]),(4,[cL 3 ([] : List Vrow) Vrow.row,cL 1 ([] : List Int) intRow]),(3,(Vrow.row x1)),(2,(CV.frzRow (Vtab.row x0)))]⟩ kr ?_
    rw [h2]
    exact jn (false,false,false,y3,y4) H (sB_ [32,22,21,20,17,16,15,14,13,7,6,5,4,3,2] [5,4,3,2] kr)
   have H := bifT h4 H
   obtain ⟨v17,ev17,H⟩ := bind_some H
   refine Tr.draw mixed 13 kr ⟨67,0,[sB 32 (decide (v17.Id ≥ x1.Id)),sB 31 (decide (v17.Id ≥ x1.Id)),sI 30 x1.Id,sA 29 3 3 0,sI 28 v17.Id,(27,.fad ((Vrow.row v17))),(26,.fad ((Vrow.row v17))),sI 25 y2,sR 24 2 2 0 1 false,sA 23 2 2 0,sB 22 true,sB 21 true,sB 20 y3,sB 17 (decide (y2 < (x0.Rows.length : Int))),sI 16 (x0.Rows.length : Int),sC 15 (cF 3 x0.Rows Vrow.row),sA 14 2 2 0,sI 13 y2,sI 7 y2,sB 6 y3,sA 5 5 2 0,sA 4 4 2 0,sA 3 3 3 0,sA 2 2 2 0],[(5,[cL 3 y4 Vrow.row,cL 1 (([] : List Int) ++ x0.Pvid) intRow]),(4,[cL 3 ([] : List Vrow) Vrow.row,cL 1 ([] : List Int) intRow]),(3,(Vrow.row x1)),(2,(CV.frzRow (Vtab.row x0)))]⟩ (fun cx => ?_) ?_
   ·refine mU tOk K154x6 [(0,[]),(1,[]),(2,[])] 10 [] [2,1,0] rfl kr (fun cx => ?_)
    refine aT ⟨67,0,[sB 22 (!y3),sB 21 (!y3),sB 20 y3,sB 17 (decide (y2 < (x0.Rows.length : Int))),sI 16 (x0.Rows.length : Int),sC 15 (cF 3 x0.Rows Vrow.row),sA 14 2 2 0,sI 13 y2,sI 7 y2,sB 6 y3,sA 5 5 2 0,sA 4 4 2 0,sA 3 3 3 0,sA 2 2 2 0],[(5,[cL 3 y4 Vrow.row,cL 1 (([] : List Int) ++ x0.Pvid) intRow]),(4,[cL 3 ([] : List Vrow) Vrow.row,cL 1 ([] : List Int) intRow]),(3,(Vrow.row x1)),(2,(CV.frzRow (Vtab.row x0)))]⟩ kr ?_
    rw [h4]
    refine mU tOk K154x6 [(3,[]),(4,[]),(5,[])] 7 [⟨[],26,23,24⟩] [5,4,3,2,1,0] rfl kr (fun cx => ?_)
    refine aI tOk 6 26 0 24 25 26 (some (2,true)) ⟨(.box 2),[(0,0)],0,false,3,(CV.frzEs (x0.Rows.map Vrow.row))⟩ y2 (Vrow.row v17) _ kr (oM K154x6 kr) (dM K154x6 kr) kr kr kr rfl (idx_isF ev17) rfl (fun cx => ?_)
    refine mU tOk K154x6 [(7,[]),(8,[]),(9,[]),(10,[]),(11,[]),(12,[])] 0 [⟨[],3,29,30⟩,⟨[],26,23,24⟩] [12,11,10,9,8,7,6,5,4,3,2,1,0] rfl kr (fun cx => ?_)
    exact mD K154x6 [32,31,30,29,28,27,26,25,24,23,22,21,20,17,16,15,14,13,7,6,5,4,3,2] [5,4,3,2] _ kr kr rfl
   refine tO ⟨67,0,[sB 32 (decide (v17.Id ≥ x1.Id)),sB 31 (decide (v17.Id ≥ x1.Id)),sI 30 x1.Id,sA 29 3 3 0,sI 28 v17.Id,(27,.fad ((Vrow.row v17))),(26,.fad ((Vrow.row v17))),sI 25 y2,sR 24 2 2 0 1 false,sA 23 2 2 0,sB 22 true,sB 21 true,sB 20 y3,sB 17 (decide (y2 < (x0.Rows.length : Int))),sI 16 (x0.Rows.length : Int),sC 15 (cF 3 x0.Rows Vrow.row),sA 14 2 2 0,sI 13 y2,sI 7 y2,sB 6 y3,sA 5 5 2 0,sA 4 4 2 0,sA 3 3 3 0,sA 2 2 2 0],[(5,[cL 3 y4 Vrow.row,cL 1 (([] : List Int) ++ x0.Pvid) intRow]),(4,[cL 3 ([] : List Vrow) Vrow.row,cL 1 ([] : List Int) intRow]),(3,(Vrow.row x1)),(2,(CV.frzRow (Vtab.row x0)))]⟩ kr ?_
   cases h5 : (decide (v17.Id ≥ x1.Id))
   ·have H := bifF h5 H
    refine tf kr ?_
    refine tK ?_
    refine Sb.to ⟨67,0,[sB 32 false,sB 31 false,sI 30 x1.Id,sA 29 3 3 0,sI 28 v17.Id,(27,.fad ((Vrow.row v17))),(26,.fad ((Vrow.row v17))),sI 25 y2,sR 24 2 2 0 1 false,sA 23 2 2 0,sB 22 true,sB 21 true,sB 20 y3,sB 17 (decide (y2 < (x0.Rows.length : Int))),sI 16 (x0.Rows.length : Int),sC 15 (cF 3 x0.Rows Vrow.row),sA 14 2 2 0,sI 13 y2,sI 7 y2,sB 6 y3,sA 5 5 2 0,sA 4 4 2 0,sA 3 3 3 0,sA 2 2 2 0],[(5,[cL 3 y4 Vrow.row,cL 1 (([] : List Int) ++ x0.Pvid) intRow]),(4,[cL 3 ([] : List Vrow) Vrow.row,cL 1 ([] : List Int) intRow]),(3,(Vrow.row x1)),(2,(CV.frzRow (Vtab.row x0)))]⟩ kr ?_
    rw [h2]
    exact jn (false,true,true,y3,y4) H (sB_ [32,22,21,20,17,16,15,14,13,7,6,5,4,3,2] [5,4,3,2] kr)
   have H := bifT h5 H
   refine tt kr ?_
   refine rU tOk 4 kr ?_
   obtain ⟨hg18,H⟩ := guard_some H
   refine LAt.appMU tOk (t := 26) (ty := 26) (e := 124) (x := (.tmp 34)) (y := (.tmp 36)) (d := 37) (g := none) (tI 124) Vrow.row y4 [x1] kr kr kr kr kr kr kr kr kr kr hg18 ?_
   refine uD tOk 2 326416720124 60 kr kr ?_
   refine tE tOk 1 326416720124 60 kr kr ?_
   refine Sb.to ⟨67,0,[sB 6 true,sA 38 5 2 0,sV 35 (Vrow.row x1),sA 33 5 2 0,sB 32 true,sB 31 true,sI 30 x1.Id,sA 29 3 3 0,sI 28 v17.Id,(27,.fad ((Vrow.row v17))),(26,.fad ((Vrow.row v17))),sI 25 y2,sR 24 2 2 0 1 false,sA 23 2 2 0,sB 22 true,sB 21 true,sB 20 y3,sB 17 (decide (y2 < (x0.Rows.length : Int))),sI 16 (x0.Rows.length : Int),sC 15 (cF 3 x0.Rows Vrow.row),sA 14 2 2 0,sI 13 y2,sI 7 y2,sA 5 5 2 0,sA 4 4 2 0,sA 3 3 3 0,sA 2 2 2 0],[(5,[cL 3 (y4 ++ [x1]) Vrow.row,cL 1 (([] : List Int) ++ x0.Pvid) intRow]),(4,[cL 3 ([] : List Vrow) Vrow.row,cL 1 ([] : List Int) intRow]),(3,(Vrow.row x1)),(2,(CV.frzRow (Vtab.row x0)))]⟩ kr ?_
   rw [h2]
   exact jn (true,true,true,true,(y4 ++ [x1])) H (sB_ [32,22,21,20,17,16,15,14,13,7,6,5,4,3,2] [5,4,3,2] kr)
  rintro ⟨y9,y10,y11,y12,y13⟩ H
  have H : (spec_l9Row_J3 n (fun v => spec_l9Row_L2 n mo8 x0 x1 v.1 v.2.1 v.2.2) x0 x1 y2 y9 y10 y11 y12 y13) = some o8 := H
  unfold spec_l9Row_J3 at H
  obtain ⟨v14,ev14,H⟩ := bind_some H
  refine Tr.draws mixed 9 kr ⟨67,0,[sB 47 (v14.Id != x1.Id),sI 46 x1.Id,sA 45 3 3 0,sI 44 v14.Id,(43,.fad ((Vrow.row v14))),(42,.fad ((Vrow.row v14))),sI 41 y2,sR 40 2 2 0 1 false,sA 39 2 2 0,sB 32 y9,sB 22 y10,sB 21 y11,sB 20 y3,sB 17 true,sI 16 (x0.Rows.length : Int),sC 15 (cF 3 x0.Rows Vrow.row),sA 14 2 2 0,sI 13 y2,sI 7 y2,sB 6 y12,sA 5 5 2 0,sA 4 4 2 0,sA 3 3 3 0,sA 2 2 2 0],[(5,[cL 3 y13 Vrow.row,cL 1 (([] : List Int) ++ x0.Pvid) intRow]),(4,[cL 3 ([] : List Vrow) Vrow.row,cL 1 ([] : List Int) intRow]),(3,(Vrow.row x1)),(2,(CV.frzRow (Vtab.row x0)))]⟩ (fun cx => ?_) ?_
  ·refine mU tOk K154x9 [(0,[]),(1,[]),(2,[])] 6 [⟨[],26,39,40⟩] [2,1,0] rfl kr (fun cx => ?_)
   refine aI tOk 3 26 0 40 41 42 none ⟨(.box 2),[(0,0)],0,false,3,(CV.frzEs (x0.Rows.map Vrow.row))⟩ y2 (Vrow.row v14) _ kr (oM K154x9 kr) (dM K154x9 kr) kr kr kr rfl (idx_isF ev14) rfl (fun cx => ?_)
   refine mU tOk K154x9 [(4,[]),(5,[]),(6,[]),(7,[]),(8,[])] 0 [⟨[],3,45,46⟩,⟨[],26,39,40⟩] [8,7,6,5,4,3,2,1,0] rfl kr (fun cx => ?_)
   exact mD K154x9 [47,46,45,44,43,42,41,40,39,32,22,21,20,17,16,15,14,13,7,6,5,4,3,2] [5,4,3,2] _ kr kr rfl
  refine tO ⟨67,0,[sB 47 (v14.Id != x1.Id),sI 46 x1.Id,sA 45 3 3 0,sI 44 v14.Id,(43,.fad ((Vrow.row v14))),(42,.fad ((Vrow.row v14))),sI 41 y2,sR 40 2 2 0 1 false,sA 39 2 2 0,sB 32 y9,sB 22 y10,sB 21 y11,sB 20 y3,sB 17 true,sI 16 (x0.Rows.length : Int),sC 15 (cF 3 x0.Rows Vrow.row),sA 14 2 2 0,sI 13 y2,sI 7 y2,sB 6 y12,sA 5 5 2 0,sA 4 4 2 0,sA 3 3 3 0,sA 2 2 2 0],[(5,[cL 3 y13 Vrow.row,cL 1 (([] : List Int) ++ x0.Pvid) intRow]),(4,[cL 3 ([] : List Vrow) Vrow.row,cL 1 ([] : List Int) intRow]),(3,(Vrow.row x1)),(2,(CV.frzRow (Vtab.row x0)))]⟩ kr ?_
  cases h3 : (v14.Id != x1.Id)
  ·have H := bifF h3 H
   refine tf kr ?_
   refine tK ?_
   refine tE tOk 3 0xff81007fe0fc 60 kr kr ?_
   exact jn (mo8,((IntKind.wrap .i64 (y2 + 1)),y12,y13)) H (sM mo8 [7,6,5,4,3,2] [5,4,3,2] kr)
  have H := bifT h3 H
  refine tt kr ?_
  obtain ⟨v15,ev15,H⟩ := bind_some H
  obtain ⟨hg16,H⟩ := guard_some H
  refine tO ⟨67,0,[sB 47 true,sI 46 x1.Id,sA 45 3 3 0,sI 44 v14.Id,(43,.fad ((Vrow.row v14))),(42,.fad ((Vrow.row v14))),sI 41 y2,sR 40 2 2 0 1 false,sA 39 2 2 0,sB 32 y9,sB 22 y10,sB 21 y11,sB 20 y3,sB 17 true,sI 16 (x0.Rows.length : Int),sC 15 (cF 3 x0.Rows Vrow.row),sA 14 2 2 0,sI 13 y2,sI 7 y2,sB 6 y12,sA 5 5 2 0,sA 4 4 2 0,sA 3 3 3 0,sA 2 2 2 0],[(5,[cL 3 y13 Vrow.row,cL 1 (([] : List Int) ++ x0.Pvid) intRow]),(4,[cL 3 ([] : List Vrow) Vrow.row,cL 1 ([] : List Int) intRow]),(3,(Vrow.row x1)),(2,(CV.frzRow (Vtab.row x0)))]⟩ kr ?_
  refine Tr.draw mixed 11 kr ⟨67,0,[sA 57 5 2 0,sV 54 (Vrow.row v15),(53,.fad ((Vrow.row v15))),sI 52 y2,sR 51 2 2 0 1 false,sA 50 2 2 0,sA 48 5 2 0,sB 47 true,sI 46 x1.Id,sA 45 3 3 0,sI 44 v14.Id,(43,.fad ((Vrow.row v14))),(42,.fad ((Vrow.row v14))),sI 41 y2,sR 40 2 2 0 1 false,sA 39 2 2 0,sB 32 y9,sB 22 y10,sB 21 y11,sB 20 y3,sB 17 true,sI 16 (x0.Rows.length : Int),sC 15 (cF 3 x0.Rows Vrow.row),sA 14 2 2 0,sI 13 y2,sI 7 y2,sB 6 y12,sA 5 5 2 0,sA 4 4 2 0,sA 3 3 3 0,sA 2 2 2 0],[(5,[cL 3 (y13 ++ [v15]) Vrow.row,cL 1 (([] : List Int) ++ x0.Pvid) intRow]),(4,[cL 3 ([] : List Vrow) Vrow.row,cL 1 ([] : List Int) intRow]),(3,(Vrow.row x1)),(2,(CV.frzRow (Vtab.row x0)))]⟩ (spec_l9Row_D1 n x0 y2 v15 y13 x1 v14 y9 y10 y11 y3 y12 ev15 hg16) ?_
  refine tE tOk 3 0x27dff81007fe0fc 60 kr kr ?_
  exact jn (mo8,((IntKind.wrap .i64 (y2 + 1)),y12,(y13 ++ [v15]))) H (sM mo8 [7,6,5,4,3,2] [5,4,3,2] kr)
 rintro ⟨y5,y6⟩ H
 have H : (spec_l9Row_J1 n x0 x1 y5 y6) = some r := H
 unfold spec_l9Row_J1 at H
 refine tS ?_
 refine tG tOk 2 0x800000000000038 56 kr kr ?_
 obtain ⟨h1,H⟩ | ⟨h1,H⟩ := bC H
 ·refine tF h1 kr ?_
  refine tK ?_
  refine tG tOk 2 16 16 kr kr ?_
  exact te (by obtain rfl := si H; exact fO [(true,[cL 3 y6 Vrow.row,cL 1 (([] : List Int) ++ x0.Pvid) intRow])] kr rfl rfl)
 refine tT h1 kr ?_
 refine Tr.at ?_
 refine lU tOk 4 kr ?_
 obtain ⟨hg7,H⟩ := guard_some H
 refine LAt.appMU tOk (t := 26) (ty := 26) (e := 124) (x := (.tmp 61)) (y := (.tmp 63)) (d := 64) (g := none) (tI 124) Vrow.row y6 [x1] kr kr kr kr kr kr kr kr kr kr hg7 ?_
 refine uD tOk 2 48 48 kr kr ?_
 refine tG tOk 2 16 16 kr kr ?_
 exact te (by obtain rfl := si H; exact fO [(true,[cL 3 (y6 ++ [x1]) Vrow.row,cL 1 (([] : List Int) ++ x0.Pvid) intRow])] kr rfl rfl)
def spec_PutRowF (n : Nat) (x0 : Vtab) (x1 : Vrow) : Option (Vtab × Bool) :=
  ((spec_VtabOkF n x0 (x0.Pvid.length : Int)).bind fun r1 => (bif (!r1) then ((spec_l9CopyF n x0).bind fun r4 => (some (r4,false))) else ((spec_l9RowF n x0 x1).bind fun r2 => ((spec_l9OrF n r2 x0).bind fun r3 => (some (r3.1,r3.2))))))
def T157x3 : Tab := ⟨9,[0,0,3,0,12,16,16,127,255],[0,0,3,0,12,16,16,32,64],[0,0,3,0,15,31,31,127,255]⟩
noncomputable abbrev G157 (k : Nat) := Rg Try.f157 k
noncomputable abbrev D157 (k : Nat) := Rd Try.f157 k
theorem K157x3 : tabOk (rg Try.f157 3) T157x3 = true := kr
theorem spec_PutRow_D1 (n : Nat) (x0 : Vtab) (x1 : Vrow) (r2 : Vtab) (r3 : Vtab × Bool) (r1 : Bool) (er2 : (spec_l9RowF n x0 x1) = some r2) (er3 : (spec_l9OrF n r2 x0) = some r3) (cx : Cx) : AT Try.prog cx (rg Try.f157 3) [] 9 [] ⟨21,0,[sB 11 (!r1),sA 4 4 2 0,sA 3 3 3 0,sA 2 2 2 0],[(4,[cL 3 ([] : List Vrow) Vrow.row,cL 1 ([] : List Int) intRow]),(3,(Vrow.row x1)),(2,(CV.frzRow (Vtab.row x0)))]⟩ (fun s => s = ⟨21,0,[sB 5 r3.2,sA 4 4 2 0],[(4,(Vtab.row r3.1))]⟩) := by
 refine mU tOk K157x3 [(0,[2,4,7]),(1,[2,4,7]),(3,[4,7])] 6 [⟨[4,7],29,2,17⟩,⟨[2,4,7],124,3,15⟩,⟨[2,4,7],29,2,14⟩] [3,1,0] rfl kr (fun cx => ?_)
 refine mB1 tOk K157x3 2 kr kr ?_
 refine lV tOk [.rd,.rd] [] (spec_l9Row n x0 x1 r2 er2) kr kr kr kr (.inl rfl) ?_
 refine lF kr kr kr ?_
 refine mB1 tOk K157x3 4 kr kr ?_
 refine lV tOk [.own,.rd] [] (spec_l9Or n r2 x0 r3 er3) kr kr kr kr (.inl rfl) ?_
 refine lF kr kr kr ?_
 refine mU tOk K157x3 [(5,[]),(6,[])] 2 [⟨[4,7],29,2,17⟩,⟨[2,4,7],124,3,15⟩,⟨[2,4,7],29,2,14⟩] [6,5,4,2,3,1,0] rfl kr (fun cx => ?_)
 refine mB1 tOk K157x3 7 kr kr ?_
 refine lU tOk 1 kr ?_
 refine lF kr kr kr ?_
 refine mU tOk K157x3 [(8,[])] 0 [⟨[4,7],29,2,17⟩,⟨[2,4,7],124,3,15⟩,⟨[2,4,7],29,2,14⟩] [8,7,6,5,4,2,3,1,0] rfl kr (fun cx => ?_)
 exact mD K157x3 [5,4] [4] _ kr kr rfl
theorem spec_PutRow (n : Nat) (x0 : Vtab) (x1 : Vrow) (r : Vtab × Bool) (H : spec_PutRowF n x0 x1 = some r) : LCall Try.prog 157 [.val true (CV.frzRow (Vtab.row x0)),.val true (CV.frzRow (Vrow.row x1))] [.val true (Vtab.row r.1),.val false [.lit (.bool r.2)]] [] := by
 refine LCall.of_body tOk Try.func157 rfl (c := (.seq (G157 0) (.seq (.seq (G157 1) (.cond (.tmp 11) (.seq (G157 2) .ret) .skip)) (.seq (D157 3) .ret)))) kr (Nat.le_of_ble_eq_true kr) 0 (rs := [.cell 4 29,.tmp 5]) rfl [] .nil [(true,(Vtab.row r.1)),(false,[.lit (.bool r.2)])] [] [] fun cx => ?_
 show Tr _ _ _ ⟨21,0,[sV 0 (CV.frzRow (Vtab.row x0)),sV 1 (Vrow.row x1)],[]⟩ _
 unfold spec_PutRowF at H
 refine tG tOk 4 28 28 kr kr ?_
 refine tS ?_
 refine rU tOk 3 kr ?_
 refine lL tOk 27 3 3 8 9 none ⟨(.slot 8),[],0,false,1,(CV.frzEs (x0.Pvid.map intRow))⟩ (x0.Pvid).length _ kr kr kr kr kr (frz_len _ _) rfl ?_
 obtain ⟨r1,er1,H⟩ := bind_some H
 refine lV tOk [.rd,.rd] [] (spec_VtabOk n x0 (x0.Pvid.length : Int) r1 er1) kr kr kr kr (.inl rfl) ?_
 refine uD tOk 1 2076 28 kr kr ?_
 obtain ⟨h1,H⟩ | ⟨h1,H⟩ := bC H
 ·refine tF h1 kr ?_
  refine tK ?_
  obtain ⟨r2,er2,H⟩ := bind_some H
  obtain ⟨r3,er3,H⟩ := bind_some H
  refine tO ⟨21,0,[sB 11 (!r1),sA 4 4 2 0,sA 3 3 3 0,sA 2 2 2 0],[(4,[cL 3 ([] : List Vrow) Vrow.row,cL 1 ([] : List Int) intRow]),(3,(Vrow.row x1)),(2,(CV.frzRow (Vtab.row x0)))]⟩ kr ?_
  refine Tr.draws mixed 9 kr ⟨21,0,[sB 5 r3.2,sA 4 4 2 0],[(4,(Vtab.row r3.1))]⟩ (spec_PutRow_D1 n x0 x1 r2 r3 r1 er2 er3) ?_
  exact te (by obtain rfl := si H; exact fO [(true,(Vtab.row r3.1)),(false,[cB r3.2])] kr rfl rfl)
 refine tT h1 kr ?_
 refine rU tOk 1 kr ?_
 obtain ⟨r4,er4,H⟩ := bind_some H
 refine lV tOk [.rd] [] (spec_l9Copy n x0 r4 er4) kr kr kr kr (.inl rfl) ?_
 refine uD tOk 2 48 16 kr kr ?_
 exact te (by obtain rfl := si H; exact fO [(true,(Vtab.row r4)),(false,[cB false])] kr rfl rfl)
def spec_l9Draw_J1 (n : Nat) (y9 : (List Int)) (y10 : Int) (y11 : Int) (y12 : (List Vrow)) (y13 : (List Int)) : Option (Vtab × Src) :=
  (some ((⟨y12,y13⟩ : Vtab),(⟨y9,y10,y11⟩ : Src)))
def spec_l9Draw_L2 (n : Nat) : Nat → Int → Int → (List Int) → Int → Int → (List Vrow) → (List Int) → Option (((List Int) × Int × Int × (List Vrow) × (List Int)) ⊕ (Vtab × Src))
  | 0,_,_,_,_,_,_,_ => none
  | mo14 + 1,x1,y3,y4,y5,y6,y7,y8 => (bif (decide (y3 > 0)) then ((spec_l1BelowF n (⟨y4,y5,y6⟩ : Src) 4).bind fun r15 => (bif (r15.1 == 0) then ((spec_l1BelowF n r15.2 x1).bind fun r20 => ((spec_l1BelowF n r20.2 3).bind fun r21 => ((spec_SetPvidF n (⟨y7,y8⟩ : Vtab) r20.1 (IntKind.wrap .i64 (1 + r21.1))).bind fun r22 => (spec_l9Draw_L2 n mo14 x1 (IntKind.wrap .i64 (y3 - 1)) r21.2.b r21.2.i r21.2.h r22.1.Rows r22.1.Pvid)))) else (bif (r15.1 == 1) then ((spec_l1BelowF n r15.2 2).bind fun r18 => ((spec_DropRowF n (⟨y7,y8⟩ : Vtab) (IntKind.wrap .i64 (2 + r18.1))).bind fun r19 => (spec_l9Draw_L2 n mo14 x1 (IntKind.wrap .i64 (y3 - 1)) r18.2.b r18.2.i r18.2.h r19.1.Rows r19.1.Pvid))) else ((spec_l9Row2F n r15.2 x1).bind fun r16 => ((spec_PutRowF n (⟨y7,y8⟩ : Vtab) r16.1).bind fun r17 => (spec_l9Draw_L2 n mo14 x1 (IntKind.wrap .i64 (y3 - 1)) r16.2.b r16.2.i r16.2.h r17.1.Rows r17.1.Pvid)))))) else (some (Sum.inl (y4,y5,y6,y7,y8))))
def spec_l9DrawF (n : Nat) (x0 : Src) (x1 : Int) : Option (Vtab × Src) :=
  ((spec_VtabNewF n x1).bind fun r1 => ((spec_l1BelowF n x0 6).bind fun r2 => ((spec_l9Draw_L2 n n x1 r2.1 r2.2.b r2.2.i r2.2.h r1.Rows r1.Pvid).bind fun o => match o with | .inl (y9,y10,y11,y12,y13) => (spec_l9Draw_J1 n y9 y10 y11 y12 y13) | .inr r => some r)))
def T120x6 : Tab := ⟨9,[0,0,0,6,9,16,32,32,127],[0,0,0,6,9,16,32,32,64],[0,0,0,6,15,31,63,63,127]⟩
noncomputable abbrev G120 (k : Nat) := Rg Try.f120 k
noncomputable abbrev D120 (k : Nat) := Rd Try.f120 k
theorem K120x6 : tabOk (rg Try.f120 6) T120x6 = true := kr
def T120x10 : Tab := ⟨9,[0,0,2,4,13,16,32,32,127],[0,0,2,4,9,16,32,32,64],[0,0,2,6,15,31,63,63,127]⟩
theorem K120x10 : tabOk (rg Try.f120 10) T120x10 = true := kr
def T120x8 : Tab := ⟨12,[0,0,0,6,0,24,32,105,128,256,256,1023],[0,0,0,6,0,16,32,73,128,256,256,512],[0,0,0,6,0,30,62,127,255,511,511,1023]⟩
theorem K120x8 : tabOk (rg Try.f120 8) T120x8 = true := kr
theorem spec_l9Draw_D1 (n : Nat) (r15 : Int × Src) (x1 : Int) (r16 : Vrow × Src) (y7 : (List Vrow)) (y8 : (List Int)) (r17 : Vtab × Bool) (y3 : Int) (er16 : (spec_l9Row2F n r15.2 x1) = some r16) (er17 : (spec_PutRowF n (⟨y7,y8⟩ : Vtab) r16.1) = some r17) (cx : Cx) : AT Try.prog cx (rg Try.f120 6) [] 9 [] ⟨49,1,[sB 38 (r15.1 == 1),sI 6 y3,sA 5 5 2 0,sA 4 4 2 0,sA 0 0 3 0,sI 1 x1],[(0,(CV.frzRow (Src.row r15.2))),(5,[cL 3 y7 Vrow.row,cL 1 y8 intRow]),(4,[cL 3 ([] : List Vrow) Vrow.row,cL 1 ([] : List Int) intRow])]⟩ (fun s => s = ⟨49,1,[sI 6 y3,sA 5 5 2 0,sA 4 4 2 0,sA 0 0 3 0,sI 1 x1],[(5,(Vtab.row r17.1)),(0,(CV.frzRow (Src.row r16.2))),(4,[cL 3 ([] : List Vrow) Vrow.row,cL 1 ([] : List Int) intRow])]⟩) := by
 refine mU tOk K120x6 [(0,[4,8]),(1,[]),(2,[])] 6 [⟨[4,8],29,5,18⟩] [2,1,0] rfl kr (fun cx => ?_)
 refine mB1 tOk K120x6 3 kr kr ?_
 refine LAt.callL tOk [.lend,.rd] (f := 158) (av := #[.tmp 19,.tmp 20]) (ats := #[100,3]) (d := (some 21)) (ty := 124) (g := none) kr kr kr [] (spec_l9Row2 n r15.2 x1 r16 er16) kr (.inl rfl) ?_
 refine lF kr kr kr ?_
 refine mB1 tOk K120x6 4 kr kr ?_
 refine lV tOk [.rd,.rd] [.box 5] (spec_PutRow n (⟨y7,y8⟩ : Vtab) r16.1 r17 er17) kr kr kr kr (.inr (rets_cons (Vtab.row_mine _) (rets_cons (mine_cons mine_lit mine_nil) rets_nil))) ?_
 refine lF kr kr kr ?_
 refine AT.movT tOk 5 (ty := 85) (t := 22) (d := 17) (g := none) [(true,(Vtab.row r17.1)),(false,[cB r17.2])] _ kr (oM K120x6 kr) (dM K120x6 kr) (.inl rfl) kr kr kr kr rfl (fun cx => ?_)
 refine mU tOk K120x6 [(6,[]),(7,[])] 1 [⟨[4,8],29,5,18⟩] [7,6,5,4,3,2,1,0] rfl kr (fun cx => ?_)
 refine mB1 tOk K120x6 8 kr kr ?_
 refine lU tOk 1 kr ?_
 refine lF kr kr kr ?_
 exact mD K120x6 [6,5,4,0,1] [5,0,4] _ kr kr rfl
theorem spec_l9Draw_D2 (n : Nat) (r15 : Int × Src) (r18 : Int × Src) (y7 : (List Vrow)) (y8 : (List Int)) (r19 : Vtab × Bool) (y3 : Int) (x1 : Int) (er18 : (spec_l1BelowF n r15.2 2) = some r18) (er19 : (spec_DropRowF n (⟨y7,y8⟩ : Vtab) (IntKind.wrap .i64 (2 + r18.1))) = some r19) (cx : Cx) : AT Try.prog cx (rg Try.f120 10) [] 9 [] ⟨49,1,[sB 38 (r15.1 == 1),sI 6 y3,sA 5 5 2 0,sA 4 4 2 0,sA 0 0 3 0,sI 1 x1],[(0,(CV.frzRow (Src.row r15.2))),(5,[cL 3 y7 Vrow.row,cL 1 y8 intRow]),(4,[cL 3 ([] : List Vrow) Vrow.row,cL 1 ([] : List Int) intRow])]⟩ (fun s => s = ⟨49,1,[sI 6 y3,sA 5 5 2 0,sA 4 4 2 0,sA 0 0 3 0,sI 1 x1],[(5,(Vtab.row r19.1)),(0,(CV.frzRow (Src.row r18.2))),(4,[cL 3 ([] : List Vrow) Vrow.row,cL 1 ([] : List Int) intRow])]⟩) := by
 refine mU tOk K120x10 [(0,[4,8]),(1,[])] 7 [⟨[4,8],29,5,41⟩] [1,0] rfl kr (fun cx => ?_)
 refine mB1 tOk K120x10 2 kr kr ?_
 refine LAt.callL tOk [.lend,.rd] (f := 54) (av := #[.tmp 42,.const (.int .i64 2)]) (ats := #[100,3]) (d := (some 43)) (ty := 3) (g := none) kr kr kr [] (spec_l1Below n r15.2 2 r18 er18) kr (.inl rfl) ?_
 refine lF kr kr kr ?_
 refine mU tOk K120x10 [(3,[])] 5 [⟨[4,8],29,5,41⟩] [3,2,1,0] rfl kr (fun cx => ?_)
 refine mB1 tOk K120x10 4 kr kr ?_
 refine lV tOk [.rd,.rd] [.box 5] (spec_DropRow n (⟨y7,y8⟩ : Vtab) (IntKind.wrap .i64 (2 + r18.1)) r19 er19) kr kr kr kr (.inr (rets_cons (Vtab.row_mine _) (rets_cons (mine_cons mine_lit mine_nil) rets_nil))) ?_
 refine lF kr kr kr ?_
 refine AT.movT tOk 5 (ty := 85) (t := 45) (d := 40) (g := none) [(true,(Vtab.row r19.1)),(false,[cB r19.2])] _ kr (oM K120x10 kr) (dM K120x10 kr) (.inl rfl) kr kr kr kr rfl (fun cx => ?_)
 refine mU tOk K120x10 [(6,[]),(7,[])] 1 [⟨[4,8],29,5,41⟩] [7,6,5,4,3,2,1,0] rfl kr (fun cx => ?_)
 refine mB1 tOk K120x10 8 kr kr ?_
 refine lU tOk 1 kr ?_
 refine lF kr kr kr ?_
 exact mD K120x10 [6,5,4,0,1] [5,0,4] _ kr kr rfl
theorem spec_l9Draw_D3 (n : Nat) (r15 : Int × Src) (x1 : Int) (r20 : Int × Src) (r21 : Int × Src) (y7 : (List Vrow)) (y8 : (List Int)) (r22 : Vtab × Bool) (y3 : Int) (er20 : (spec_l1BelowF n r15.2 x1) = some r20) (er21 : (spec_l1BelowF n r20.2 3) = some r21) (er22 : (spec_SetPvidF n (⟨y7,y8⟩ : Vtab) r20.1 (IntKind.wrap .i64 (1 + r21.1))) = some r22) (cx : Cx) : AT Try.prog cx (rg Try.f120 8) [] 12 [] ⟨49,1,[sB 25 (r15.1 == 0),sI 16 r15.1,sI 6 y3,sA 5 5 2 0,sA 4 4 2 0,sA 0 0 3 0,sI 1 x1],[(0,(CV.frzRow (Src.row r15.2))),(5,[cL 3 y7 Vrow.row,cL 1 y8 intRow]),(4,[cL 3 ([] : List Vrow) Vrow.row,cL 1 ([] : List Int) intRow])]⟩ (fun s => s = ⟨49,1,[sI 6 y3,sA 5 5 2 0,sA 4 4 2 0,sA 0 0 3 0,sI 1 x1],[(5,(Vtab.row r22.1)),(0,(CV.frzRow (Src.row r21.2))),(4,[cL 3 ([] : List Vrow) Vrow.row,cL 1 ([] : List Int) intRow])]⟩) := by
 refine mU tOk K120x8 [(0,[7,11]),(1,[]),(2,[]),(4,[])] 8 [⟨[7,11],29,5,28⟩] [4,2,1,0] rfl kr (fun cx => ?_)
 refine mB1 tOk K120x8 3 kr kr ?_
 refine LAt.callL tOk [.lend,.rd] (f := 54) (av := #[.tmp 29,.tmp 30]) (ats := #[100,3]) (d := (some 31)) (ty := 3) (g := none) kr kr kr [] (spec_l1Below n r15.2 x1 r20 er20) kr (.inl rfl) ?_
 refine lF kr kr kr ?_
 refine mB1 tOk K120x8 5 kr kr ?_
 refine LAt.callL tOk [.lend,.rd] (f := 54) (av := #[.tmp 32,.const (.int .i64 3)]) (ats := #[100,3]) (d := (some 33)) (ty := 3) (g := none) kr kr kr [] (spec_l1Below n r20.2 3 r21 er21) kr (.inl rfl) ?_
 refine lF kr kr kr ?_
 refine mU tOk K120x8 [(6,[])] 5 [⟨[7,11],29,5,28⟩] [6,5,3,4,2,1,0] rfl kr (fun cx => ?_)
 refine mB1 tOk K120x8 7 kr kr ?_
 refine lV tOk [.rd,.rd,.rd] [.box 5] (spec_SetPvid n (⟨y7,y8⟩ : Vtab) r20.1 (IntKind.wrap .i64 (1 + r21.1)) r22 er22) kr kr kr kr (.inr (rets_cons (Vtab.row_mine _) (rets_cons (mine_cons mine_lit mine_nil) rets_nil))) ?_
 refine lF kr kr kr ?_
 refine AT.movT tOk 8 (ty := 85) (t := 35) (d := 27) (g := none) [(true,(Vtab.row r22.1)),(false,[cB r22.2])] _ kr (oM K120x8 kr) (dM K120x8 kr) (.inl rfl) kr kr kr kr rfl (fun cx => ?_)
 refine mU tOk K120x8 [(9,[]),(10,[])] 1 [⟨[7,11],29,5,28⟩] [10,9,8,7,6,5,3,4,2,1,0] rfl kr (fun cx => ?_)
 refine mB1 tOk K120x8 11 kr kr ?_
 refine lU tOk 1 kr ?_
 refine lF kr kr kr ?_
 exact mD K120x8 [6,5,4,0,1] [5,0,4] _ kr kr rfl
theorem spec_l9Draw (n : Nat) (x0 : Src) (x1 : Int) (r : Vtab × Src) (H : spec_l9DrawF n x0 x1 = some r) : LCall Try.prog 120 [.ptr (CV.frzRow (Src.row x0)),.val false [.lit (.int .i64 x1)]] [.val true (Vtab.row r.1)] [(0,(CV.frzRow (Src.row r.2)))] := by
 refine LCall.of_body tOk Try.func120 rfl (c := (.seq (G120 0) (.seq (G120 1) (.seq (.seq (G120 2) (.block 0 (.loop (.seq (.seq (G120 3) (.cond (.tmp 12) .skip (.exit 0))) (.seq (.block 1 (.seq (G120 5) (.block 2 (.seq (G120 7) (.cond (.tmp 25) (D120 8) (.seq (G120 9) (.cond (.tmp 38) (D120 10) (D120 6)))))))) (G120 4)))))) (.seq (G120 11) .ret))))) kr (Nat.le_of_ble_eq_true kr) 1 (rs := [.cell 4 29]) rfl [] .nil [(true,(Vtab.row r.1))] [] [(0,(CV.frzRow (Src.row r.2)))] fun cx => ?_
 show Tr _ _ _ ⟨49,1,[sA 0 0 3 0,sI 1 x1],[(0,(CV.frzRow (Src.row x0)))]⟩ _
 unfold spec_l9DrawF at H
 refine tG tOk 1 19 17 kr kr ?_
 refine rU tOk 1 kr ?_
 obtain ⟨r1,er1,H⟩ := bind_some H
 refine lV tOk [.rd] [] (spec_VtabNew n x1 r1 er1) kr kr kr kr (.inl rfl) ?_
 refine uD tOk 2 51 49 kr kr ?_
 refine tS ?_
 refine rU tOk 1 kr ?_
 obtain ⟨r2,er2,H⟩ := bind_some H
 refine LAt.callL tOk [.lend,.rd] (f := 54) (av := #[.tmp 9,.const (.int .i64 6)]) (ats := #[100,3]) (d := (some 10)) (ty := 3) (g := none) kr kr kr [] (spec_l1Below n x0 6 r2 er2) kr (.inl rfl) ?_
 refine uD tOk 1 115 49 kr kr ?_
 obtain ⟨o14,eo14,Ho14⟩ := bind_some H
 clear H
 refine Tr.mid (ι := (List Int) × Int × Int × (List Vrow) × (List Int)) (fun v => ⟨49,1,[sA 5 5 2 0,sA 4 4 2 0,sA 0 0 3 0],[(0,[cF 1 v.1 byteRow,cI v.2.1,cI v.2.2.1]),(5,[cL 3 v.2.2.2.1 Vrow.row,cL 1 v.2.2.2.2 intRow]),(4,[cL 3 ([] : List Vrow) Vrow.row,cL 1 ([] : List Int) intRow])]⟩) (fun v => spec_l9Draw_J1 n v.1 v.2.1 v.2.2.1 v.2.2.2.1 v.2.2.2.2 = some r) ?_ ?_
 ·refine tB ?_
  refine Tr.loop (ι := Nat × (Int × (List Int) × Int × Int × (List Vrow) × (List Int))) (fun v => ⟨49,1,[sI 6 v.2.1,sA 5 5 2 0,sA 4 4 2 0,sA 0 0 3 0,sI 1 x1],[(0,[cF 1 v.2.2.1 byteRow,cI v.2.2.2.1,cI v.2.2.2.2.1]),(5,[cL 3 v.2.2.2.2.2.1 Vrow.row,cL 1 v.2.2.2.2.2.2 intRow]),(4,[cL 3 ([] : List Vrow) Vrow.row,cL 1 ([] : List Int) intRow])]⟩) (fun v => spec_l9Draw_L2 n v.1 x1 v.2.1 v.2.2.1 v.2.2.2.1 v.2.2.2.2.1 v.2.2.2.2.2.1 v.2.2.2.2.2.2 = some o14) (fun v => v.1) (n,(r2.1,r2.2.b,r2.2.i,r2.2.h,r1.Rows,r1.Pvid)) eo14 (St.sub_of [6,5,4,0,1] [0,5,4] kr) ?_
  rintro ⟨mo14,y3,y4,y5,y6,y7,y8⟩ H
  have H : spec_l9Draw_L2 n mo14 x1 y3 y4 y5 y6 y7 y8 = some o14 := H
  obtain _ | mo14 := mo14
  ·cases (show (none : Option _) = some o14 from H)
  rw [spec_l9Draw_L2] at H
  refine tS ?_
  refine tG tOk 2 4211 49 kr kr ?_
  obtain ⟨h1,H⟩ | ⟨h1,H⟩ := bC H
  ·refine tF h1 kr ?_
   refine Tr.exit ?_
   refine And.intro (fun _ => ?_) (fun h => absurd rfl h)
   obtain rfl := si H
   have H := Ho14
   dsimp only at H
   exact jn (y4,y5,y6,y7,y8) H (sB_ [5,4,0] [0,5,4] kr)
  refine tT h1 kr ?_
  refine tK ?_
  refine tS ?_
  refine tB ?_
  refine rU tOk 1 kr ?_
  obtain ⟨r15,er15,H⟩ := bind_some H
  refine LAt.callL tOk [.lend,.rd] (f := 54) (av := #[.tmp 15,.const (.int .i64 4)]) (ats := #[100,3]) (d := (some 16)) (ty := 3) (g := none) kr kr kr [] (spec_l1Below n (⟨y4,y5,y6⟩ : Src) 4 r15 er15) kr (.inl rfl) ?_
  refine lD 65651 49 kr ?_
  refine tB ?_
  refine tG tOk 2 33620083 49 kr kr ?_
  obtain ⟨h2,H⟩ | ⟨h2,H⟩ := bC H
  ·refine tF h2 kr ?_
   refine tG tOk 2 274877907059 49 kr kr ?_
   obtain ⟨h3,H⟩ | ⟨h3,H⟩ := bC H
   ·refine tF h3 kr ?_
    obtain ⟨r16,er16,H⟩ := bind_some H
    obtain ⟨r17,er17,H⟩ := bind_some H
    refine tO ⟨49,1,[sB 38 (r15.1 == 1),sI 6 y3,sA 5 5 2 0,sA 4 4 2 0,sA 0 0 3 0,sI 1 x1],[(0,(CV.frzRow (Src.row r15.2))),(5,[cL 3 y7 Vrow.row,cL 1 y8 intRow]),(4,[cL 3 ([] : List Vrow) Vrow.row,cL 1 ([] : List Int) intRow])]⟩ kr ?_
    refine Tr.draw mixed 9 kr ⟨49,1,[sI 6 y3,sA 5 5 2 0,sA 4 4 2 0,sA 0 0 3 0,sI 1 x1],[(5,(Vtab.row r17.1)),(0,(CV.frzRow (Src.row r16.2))),(4,[cL 3 ([] : List Vrow) Vrow.row,cL 1 ([] : List Int) intRow])]⟩ (spec_l9Draw_D1 n r15 x1 r16 y7 y8 r17 y3 er16 er17) ?_
    refine tE tOk 3 115 49 kr kr ?_
    exact jn (mo14,((IntKind.wrap .i64 (y3 - 1)),r16.2.b,r16.2.i,r16.2.h,r17.1.Rows,r17.1.Pvid)) H (sM mo14 [6,5,4,0,1] [0,5,4] kr)
   refine tT h3 kr ?_
   obtain ⟨r18,er18,H⟩ := bind_some H
   obtain ⟨r19,er19,H⟩ := bind_some H
   refine tO ⟨49,1,[sB 38 (r15.1 == 1),sI 6 y3,sA 5 5 2 0,sA 4 4 2 0,sA 0 0 3 0,sI 1 x1],[(0,(CV.frzRow (Src.row r15.2))),(5,[cL 3 y7 Vrow.row,cL 1 y8 intRow]),(4,[cL 3 ([] : List Vrow) Vrow.row,cL 1 ([] : List Int) intRow])]⟩ kr ?_
   refine Tr.draw mixed 9 kr ⟨49,1,[sI 6 y3,sA 5 5 2 0,sA 4 4 2 0,sA 0 0 3 0,sI 1 x1],[(5,(Vtab.row r19.1)),(0,(CV.frzRow (Src.row r18.2))),(4,[cL 3 ([] : List Vrow) Vrow.row,cL 1 ([] : List Int) intRow])]⟩ (spec_l9Draw_D2 n r15 r18 y7 y8 r19 y3 x1 er18 er19) ?_
   refine tE tOk 3 115 49 kr kr ?_
   exact jn (mo14,((IntKind.wrap .i64 (y3 - 1)),r18.2.b,r18.2.i,r18.2.h,r19.1.Rows,r19.1.Pvid)) H (sM mo14 [6,5,4,0,1] [0,5,4] kr)
  refine tT h2 kr ?_
  obtain ⟨r20,er20,H⟩ := bind_some H
  obtain ⟨r21,er21,H⟩ := bind_some H
  obtain ⟨r22,er22,H⟩ := bind_some H
  refine tO ⟨49,1,[sB 25 (r15.1 == 0),sI 16 r15.1,sI 6 y3,sA 5 5 2 0,sA 4 4 2 0,sA 0 0 3 0,sI 1 x1],[(0,(CV.frzRow (Src.row r15.2))),(5,[cL 3 y7 Vrow.row,cL 1 y8 intRow]),(4,[cL 3 ([] : List Vrow) Vrow.row,cL 1 ([] : List Int) intRow])]⟩ kr ?_
  refine Tr.draw mixed 12 kr ⟨49,1,[sI 6 y3,sA 5 5 2 0,sA 4 4 2 0,sA 0 0 3 0,sI 1 x1],[(5,(Vtab.row r22.1)),(0,(CV.frzRow (Src.row r21.2))),(4,[cL 3 ([] : List Vrow) Vrow.row,cL 1 ([] : List Int) intRow])]⟩ (spec_l9Draw_D3 n r15 x1 r20 r21 y7 y8 r22 y3 er20 er21 er22) ?_
  refine tE tOk 3 115 49 kr kr ?_
  exact jn (mo14,((IntKind.wrap .i64 (y3 - 1)),r21.2.b,r21.2.i,r21.2.h,r22.1.Rows,r22.1.Pvid)) H (sM mo14 [6,5,4,0,1] [0,5,4] kr)
 rintro ⟨y9,y10,y11,y12,y13⟩ H
 have H : (spec_l9Draw_J1 n y9 y10 y11 y12 y13) = some r := H
 unfold spec_l9Draw_J1 at H
 refine tG tOk 2 17 17 kr kr ?_
 refine te ?_
 obtain rfl := si H
 exact Fin.ofY _ [(true,[cL 3 y12 Vrow.row,cL 1 y13 intRow])] [] _ [] _ [(0,[cF 1 y9 byteRow,cI y10,cI y11])] kr rfl rfl rfl kr kr kr kr rfl rfl rfl
def spec_l9Any_J1 (n : Nat) (r1 : Int × Src) (r3 : Int × Src) (y7 : (List Vrow)) (y8 : (List Int)) : Option (Vtab × Int × Src) :=
  (some ((⟨y7,y8⟩ : Vtab),(IntKind.wrap .i64 (1 + r1.1)),r3.2))
def spec_l9Any_L2 (n : Nat) : Nat → Int → (List Vrow) → (List Int) → Option (((List Vrow) × (List Int)) ⊕ (Vtab × Int × Src))
  | 0,_,_,_ => none
  | mo9 + 1,y4,y5,y6 => (bif (decide (y4 < 6)) then ((spec_l9RowF n (⟨y5,y6⟩ : Vtab) (⟨(IntKind.wrap .i64 (10 + y4)),0,0⟩ : Vrow)).bind fun r10 => (spec_l9Any_L2 n mo9 (IntKind.wrap .i64 (y4 + 1)) r10.Rows r10.Pvid)) else (some (Sum.inl (y5,y6))))
def spec_l9AnyF (n : Nat) (x0 : Src) : Option (Vtab × Int × Src) :=
  ((spec_l1BelowF n x0 4).bind fun r1 => ((spec_l9DrawF n r1.2 (IntKind.wrap .i64 (1 + r1.1))).bind fun r2 => ((spec_l1BelowF n r2.2 12).bind fun r3 => (bif (r3.1 == 0) then ((spec_l1IntF n r3.2 [0,1,9,100]).bind fun r14 => ((spec_l1IntF n r14.2 [(-1),0,1,64]).bind fun r15 => ((spec_l1BelowF n r15.2 3).bind fun r16 => (bif (decide (r2.1.Rows.length + [(⟨r14.1,r15.1,r16.1⟩ : Vrow)].length ≤ 268435456)) then (some ((⟨(r2.1.Rows ++ [(⟨r14.1,r15.1,r16.1⟩ : Vrow)]),r2.1.Pvid⟩ : Vtab),(IntKind.wrap .i64 (1 + r1.1)),r16.2)) else none)))) else (bif (r3.1 == 1) then ((spec_l1IntF n r3.2 [0,7]).bind fun r12 => ((idx r2.1.Pvid 0).bind fun v13 => (some ((⟨r2.1.Rows,(r2.1.Pvid.set (((0 : Int)).toNat) r12.1)⟩ : Vtab),(IntKind.wrap .i64 (1 + r1.1)),r12.2)))) else (bif (r3.1 == 2) then ((spec_l1IntF n r3.2 [0,6,7]).bind fun r11 => (some (r2.1,r11.1,r11.2))) else (bif (r3.1 == 3) then ((spec_l9Any_L2 n n 0 r2.1.Rows r2.1.Pvid).bind fun o => match o with | .inl (y7,y8) => (spec_l9Any_J1 n r1 r3 y7 y8) | .inr r => some r) else (some (r2.1,(IntKind.wrap .i64 (1 + r1.1)),r3.2)))))))))
def T101x5 : Tab := ⟨15,[0,1,0,0,12,0,0,112,0,384,656,1024,2562,8191,16383],[0,1,0,0,12,0,0,96,0,256,656,1024,2050,0,12288],[0,1,0,0,12,0,0,124,0,508,1020,2044,4095,8191,16383]⟩
noncomputable abbrev G101 (k : Nat) := Rg Try.f101 k
noncomputable abbrev D101 (k : Nat) := Rd Try.f101 k
theorem K101x5 : tabOk (rg Try.f101 5) T101x5 = true := kr
theorem spec_l9Any_D1 (n : Nat) (r3 : Int × Src) (r12 : Int × Src) (r2 : Vtab × Src) (v13 : Int) (r1 : Int × Src) (er12 : (spec_l1IntF n r3.2 [0,7]) = some r12) (ev13 : (idx r2.1.Pvid 0) = some v13) (cx : Cx) : AT Try.prog cx (rg Try.f101 7) [] 7 [] ⟨57,1,[sB 31 (r3.1 == 1),sI 14 r3.1,sA 5 5 2 0,sI 4 (IntKind.wrap .i64 (1 + r1.1)),sA 2 2 2 0,sA 0 0 3 0],[(0,(CV.frzRow (Src.row r3.2))),(5,(Vtab.row r2.1)),(2,[cL 3 ([] : List Vrow) Vrow.row,cL 1 ([] : List Int) intRow])]⟩ (fun s => s = ⟨57,1,[sA 5 5 2 0,sI 4 (IntKind.wrap .i64 (1 + r1.1)),sA 2 2 2 0,sA 0 0 3 0],[(5,[cL 3 r2.1.Rows Vrow.row,cL 1 (r2.1.Pvid.set (((0 : Int)).toNat) r12.1) intRow]),(0,(CV.frzRow (Src.row r12.2))),(2,[cL 3 ([] : List Vrow) Vrow.row,cL 1 ([] : List Int) intRow])]⟩) := by
 refine aU tOk [(0,[]),(1,[6]),(2,[])] 4 [⟨[6],27,33,34⟩] [2,1,0] rfl kr (fun cx => ?_)
 refine AT.big1 tOk 3 kr kr ?_
 refine lU tOk 1 kr ?_
 refine lF kr kr kr ?_
 refine AT.big1 tOk 4 kr kr ?_
 refine LAt.callL tOk [.lend,.rd] (f := 56) (av := #[.tmp 35,.tmp 36]) (ats := #[100,27]) (d := (some 37)) (ty := 3) (g := none) kr kr kr [] (spec_l1Int n r3.2 [0,7] r12 er12) kr (.inl rfl) ?_
 refine lF kr kr kr ?_
 refine AT.indexO tOk 5 (t := 27) (ty := 0) (x := (.tmp 34)) (y := (.const (.int .i64 0))) (d := 38) (g := none) ⟨(.box 5),[(0,0)],1,true,1,(r2.1.Pvid.map intRow)⟩ 0 (((0 : Int)).toNat) (intRow v13) _ kr kr kr kr kr kr rfl kr (idx_isE ev13) rfl rfl (fun cx => ?_)
 refine AT.big1 tOk 6 kr kr ?_
 refine LAt.storeB tOk (t := 3) (ty := 0) (ad := (.tmp 38)) (x := (.tmp 37)) (g := none) (tI 3) false [cI r12.1] 5 1 (((0 : Int)).toNat) 1 0 1 r2.1.Pvid intRow v13 r12.1 kr kr kr kr kr kr kr kr (idx_get ev13).2 kr kr kr kr ?_
 refine lF kr kr kr ?_
 exact AT.done [5,4,2,0] [5,0,2] _ kr kr rfl
theorem spec_l9Any_D2 (n : Nat) (r3 : Int × Src) (r14 : Int × Src) (r15 : Int × Src) (r16 : Int × Src) (r2 : Vtab × Src) (r1 : Int × Src) (er14 : (spec_l1IntF n r3.2 [0,1,9,100]) = some r14) (er15 : (spec_l1IntF n r14.2 [(-1),0,1,64]) = some r15) (er16 : (spec_l1BelowF n r15.2 3) = some r16) (hg17 : (decide (r2.1.Rows.length + [(⟨r14.1,r15.1,r16.1⟩ : Vrow)].length ≤ 268435456)) = true) (cx : Cx) : AT Try.prog cx (rg Try.f101 5) [] 15 [] ⟨57,1,[sB 15 (r3.1 == 0),sI 14 r3.1,sA 5 5 2 0,sI 4 (IntKind.wrap .i64 (1 + r1.1)),sA 2 2 2 0,sA 0 0 3 0],[(0,(CV.frzRow (Src.row r3.2))),(5,(Vtab.row r2.1)),(2,[cL 3 ([] : List Vrow) Vrow.row,cL 1 ([] : List Int) intRow])]⟩ (fun s => s = ⟨57,1,[sA 5 5 2 0,sI 4 (IntKind.wrap .i64 (1 + r1.1)),sA 2 2 2 0,sA 0 0 3 0],[(5,[cL 3 (r2.1.Rows ++ [(⟨r14.1,r15.1,r16.1⟩ : Vrow)]) Vrow.row,cL 1 r2.1.Pvid intRow]),(0,(CV.frzRow (Src.row r16.2))),(2,[cL 3 ([] : List Vrow) Vrow.row,cL 1 ([] : List Int) intRow])]⟩) := by
 refine mU tOk K101x5 [(0,[]),(1,[12,14]),(2,[]),(5,[]),(8,[])] 10 [⟨[12,14],26,17,18⟩] [8,5,2,1,0] rfl kr (fun cx => ?_)
 refine mB2 tOk K101x5 3 6 kr (And.intro kr ?_) (And.intro kr ?_)
 ·refine lU tOk 1 kr ?_
  refine lF kr kr kr ?_
  refine mB2 tOk K101x5 4 6 kr (And.intro kr ?_) (And.intro kr ?_)
  ·refine LAt.callL tOk [.lend,.rd] (f := 56) (av := #[.tmp 19,.tmp 20]) (ats := #[100,27]) (d := (some 21)) (ty := 3) (g := none) kr kr kr [] (spec_l1Int n r3.2 [0,1,9,100] r14 er14) kr (.inl rfl) ?_
   refine lF kr kr kr ?_
   refine mB1 tOk K101x5 6 kr kr ?_
   refine lU tOk 1 kr ?_
   refine lF kr kr kr ?_
   refine mB1 tOk K101x5 7 kr kr ?_
   refine LAt.callL tOk [.lend,.rd] (f := 56) (av := #[.tmp 22,.tmp 23]) (ats := #[100,27]) (d := (some 24)) (ty := 3) (g := none) kr kr kr [] (spec_l1Int n r14.2 [(-1),0,1,64] r15 er15) kr (.inl rfl) ?_
   refine lF kr kr kr ?_
   refine mB1 tOk K101x5 9 kr kr ?_
   refine LAt.callL tOk [.lend,.rd] (f := 54) (av := #[.tmp 25,.const (.int .i64 3)]) (ats := #[100,3]) (d := (some 26)) (ty := 3) (g := none) kr kr kr [] (spec_l1Below n r15.2 3 r16 er16) kr (.inl rfl) ?_
   refine lF kr kr kr ?_
   refine mB1 tOk K101x5 10 kr kr ?_
   refine lU tOk 1 kr ?_
   refine lF kr kr kr ?_
   refine mB1 tOk K101x5 11 kr kr ?_
   refine lU tOk 1 kr ?_
   refine lF kr kr kr ?_
   refine mB1 tOk K101x5 12 kr kr ?_
   refine LAt.appMU tOk (t := 26) (ty := 26) (e := 124) (x := (.tmp 18)) (y := (.tmp 28)) (d := 29) (g := none) (tI 124) Vrow.row r2.1.Rows [(⟨r14.1,r15.1,r16.1⟩ : Vrow)] kr kr kr kr kr kr kr kr kr kr hg17 ?_
   refine lF kr kr kr ?_
   refine mU tOk K101x5 [(13,[])] 1 [⟨[12,14],26,17,18⟩] [13,12,11,10,9,7,6,4,3,8,5,2,1,0] rfl kr (fun cx => ?_)
   refine mB1 tOk K101x5 14 kr kr ?_
   refine lU tOk 1 kr ?_
   refine lF kr kr kr ?_
   exact mD K101x5 [5,4,2,0] [5,0,2] _ kr kr rfl
  ·refine lU tOk 1 kr ?_
   refine lF kr kr kr ?_
   refine mB1 tOk K101x5 4 kr kr ?_
   refine LAt.callL tOk [.lend,.rd] (f := 56) (av := #[.tmp 19,.tmp 20]) (ats := #[100,27]) (d := (some 21)) (ty := 3) (g := none) kr kr kr [] (spec_l1Int n r3.2 [0,1,9,100] r14 er14) kr (.inl rfl) ?_
   refine lF kr kr kr ?_
   refine mB1 tOk K101x5 7 kr kr ?_
   refine LAt.callL tOk [.lend,.rd] (f := 56) (av := #[.tmp 22,.tmp 23]) (ats := #[100,27]) (d := (some 24)) (ty := 3) (g := none) kr kr kr [] (spec_l1Int n r14.2 [(-1),0,1,64] r15 er15) kr (.inl rfl) ?_
   refine lF kr kr kr ?_
   refine mB1 tOk K101x5 9 kr kr ?_
   refine LAt.callL tOk [.lend,.rd] (f := 54) (av := #[.tmp 25,.const (.int .i64 3)]) (ats := #[100,3]) (d := (some 26)) (ty := 3) (g := none) kr kr kr [] (spec_l1Below n r15.2 3 r16 er16) kr (.inl rfl) ?_
   refine lF kr kr kr ?_
   refine mB1 tOk K101x5 10 kr kr ?_
   refine lU tOk 1 kr ?_
   refine lF kr kr kr ?_
   refine mB1 tOk K101x5 11 kr kr ?_
   refine lU tOk 1 kr ?_
   refine lF kr kr kr ?_
   refine mB1 tOk K101x5 12 kr kr ?_
   refine LAt.appMU tOk (t := 26) (ty := 26) (e := 124) (x := (.tmp 18)) (y := (.tmp 28)) (d := 29) (g := none) (tI 124) Vrow.row r2.1.Rows [(⟨r14.1,r15.1,r16.1⟩ : Vrow)] kr kr kr kr kr kr kr kr kr kr hg17 ?_
   refine lF kr kr kr ?_
   refine mU tOk K101x5 [(13,[])] 1 [⟨[12,14],26,17,18⟩] [13,12,11,10,9,7,4,6,3,8,5,2,1,0] rfl kr (fun cx => ?_)
   refine mB1 tOk K101x5 14 kr kr ?_
   refine lU tOk 1 kr ?_
   refine lF kr kr kr ?_
   exact mD K101x5 [5,4,2,0] [5,0,2] _ kr kr rfl
 ·refine lU tOk 1 kr ?_
  refine lF kr kr kr ?_
  refine mB1 tOk K101x5 3 kr kr ?_
  refine lU tOk 1 kr ?_
  refine lF kr kr kr ?_
  refine mB1 tOk K101x5 4 kr kr ?_
  refine LAt.callL tOk [.lend,.rd] (f := 56) (av := #[.tmp 19,.tmp 20]) (ats := #[100,27]) (d := (some 21)) (ty := 3) (g := none) kr kr kr [] (spec_l1Int n r3.2 [0,1,9,100] r14 er14) kr (.inl rfl) ?_
  refine lF kr kr kr ?_
  refine mB1 tOk K101x5 7 kr kr ?_
  refine LAt.callL tOk [.lend,.rd] (f := 56) (av := #[.tmp 22,.tmp 23]) (ats := #[100,27]) (d := (some 24)) (ty := 3) (g := none) kr kr kr [] (spec_l1Int n r14.2 [(-1),0,1,64] r15 er15) kr (.inl rfl) ?_
  refine lF kr kr kr ?_
  refine mB1 tOk K101x5 9 kr kr ?_
  refine LAt.callL tOk [.lend,.rd] (f := 54) (av := #[.tmp 25,.const (.int .i64 3)]) (ats := #[100,3]) (d := (some 26)) (ty := 3) (g := none) kr kr kr [] (spec_l1Below n r15.2 3 r16 er16) kr (.inl rfl) ?_
  refine lF kr kr kr ?_
  refine mB1 tOk K101x5 10 kr kr ?_
  refine lU tOk 1 kr ?_
  refine lF kr kr kr ?_
  refine mB1 tOk K101x5 11 kr kr ?_
  refine lU tOk 1 kr ?_
  refine lF kr kr kr ?_
  refine mB1 tOk K101x5 12 kr kr ?_
  refine LAt.appMU tOk (t := 26) (ty := 26) (e := 124) (x := (.tmp 18)) (y := (.tmp 28)) (d := 29) (g := none) (tI 124) Vrow.row r2.1.Rows [(⟨r14.1,r15.1,r16.1⟩ : Vrow)] kr kr kr kr kr kr kr kr kr kr hg17 ?_
  refine lF kr kr kr ?_
  refine mU tOk K101x5 [(13,[])] 1 [⟨[12,14],26,17,18⟩] [13,12,11,10,9,7,4,3,6,8,5,2,1,0] rfl kr (fun cx => ?_)
  refine mB1 tOk K101x5 14 kr kr ?_
  refine lU tOk 1 kr ?_
  refine lF kr kr kr ?_
  exact mD K101x5 [5,4,2,0] [5,0,2] _ kr kr rfl
theorem spec_l9Any (n : Nat) (x0 : Src) (r : Vtab × Int × Src) (H : spec_l9AnyF n x0 = some r) : LCall Try.prog 101 [.ptr (CV.frzRow (Src.row x0))] [.val true (Vtab.row r.1),.val false [.lit (.int .i64 r.2.1)]] [(0,(CV.frzRow (Src.row r.2.2)))] := by
 refine LCall.of_body tOk Try.func101 rfl (c := (.seq (G101 0) (.seq (G101 1) (.seq (G101 2) (.seq (.seq (G101 3) (.block 0 (.seq (G101 4) (.cond (.tmp 15) (D101 5) (.seq (G101 6) (.cond (.tmp 31) (D101 7) (.seq (G101 8) (.cond (.tmp 39) (G101 9) (.seq (G101 10) (.cond (.tmp 44) (.seq (G101 11) (.block 1 (.loop (.seq (.seq (G101 12) (.cond (.tmp 47) .skip (.exit 1))) (.seq (.block 2 (G101 14)) (G101 13)))))) .skip)))))))))) (.seq (G101 15) .ret)))))) kr (Nat.le_of_ble_eq_true kr) 1 (rs := [.cell 2 29,.tmp 3]) rfl [] .nil [(true,(Vtab.row r.1)),(false,[.lit (.int .i64 r.2.1)])] [] [(0,(CV.frzRow (Src.row r.2.2)))] fun cx => ?_
 show Tr _ _ _ ⟨57,1,[sA 0 0 3 0],[(0,(CV.frzRow (Src.row x0)))]⟩ _
 unfold spec_l9AnyF at H
 refine tG tOk 2 5 5 kr kr ?_
 refine rU tOk 1 kr ?_
 obtain ⟨r1,er1,H⟩ := bind_some H
 refine LAt.callL tOk [.lend,.rd] (f := 54) (av := #[.tmp 7,.const (.int .i64 4)]) (ats := #[100,3]) (d := (some 8)) (ty := 3) (g := none) kr kr kr [] (spec_l1Below n x0 4 r1 er1) kr (.inl rfl) ?_
 refine uD tOk 2 21 5 kr kr ?_
 refine rU tOk 2 kr ?_
 obtain ⟨r2,er2,H⟩ := bind_some H
 refine LAt.callL tOk [.lend,.rd] (f := 120) (av := #[.tmp 10,.tmp 11]) (ats := #[100,3]) (d := (some 12)) (ty := 29) (g := none) kr kr kr [] (spec_l9Draw n r1.2 (IntKind.wrap .i64 (1 + r1.1)) r2 er2) kr (.inl rfl) ?_
 refine uD tOk 2 53 37 kr kr ?_
 refine tS ?_
 refine rU tOk 1 kr ?_
 obtain ⟨r3,er3,H⟩ := bind_some H
 refine LAt.callL tOk [.lend,.rd] (f := 54) (av := #[.tmp 13,.const (.int .i64 12)]) (ats := #[100,3]) (d := (some 14)) (ty := 3) (g := none) kr kr kr [] (spec_l1Below n r2.2 12 r3 er3) kr (.inl rfl) ?_
 refine lD 16437 37 kr ?_
 refine tB ?_
 refine tG tOk 2 49205 37 kr kr ?_
 obtain ⟨h1,H⟩ | ⟨h1,H⟩ := bC H
 ·refine tF h1 kr ?_
  refine tG tOk 2 2147500085 37 kr kr ?_
  obtain ⟨h2,H⟩ | ⟨h2,H⟩ := bC H
  ·refine tF h2 kr ?_
   refine tG tOk 2 549755830325 37 kr kr ?_
   obtain ⟨h3,H⟩ | ⟨h3,H⟩ := bC H
   ·refine tF h3 kr ?_
    refine tG tOk 2 17592186044469 37 kr kr ?_
    obtain ⟨h4,H⟩ | ⟨h4,H⟩ := bC H
    ·refine tF h4 kr ?_
     refine tK ?_
     refine tG tOk 4 13 5 kr kr ?_
     refine te ?_
     obtain rfl := si H
     exact Fin.ofY _ [(true,(Vtab.row r2.1)),(false,[cI (IntKind.wrap .i64 (1 + r1.1))])] [] _ [] _ [(0,(CV.frzRow (Src.row r3.2)))] kr rfl rfl rfl kr kr kr kr rfl rfl rfl
    refine tT h4 kr ?_
    refine tG tOk 1 117 37 kr kr ?_
    obtain ⟨o9,eo9,Ho9⟩ := bind_some H
    clear H
    refine Tr.mid (ι := (List Vrow) × (List Int)) (fun v => ⟨57,1,[sA 5 5 2 0,sI 4 (IntKind.wrap .i64 (1 + r1.1)),sA 2 2 2 0,sA 0 0 3 0],[(0,(CV.frzRow (Src.row r3.2))),(5,[cL 3 v.1 Vrow.row,cL 1 v.2 intRow]),(2,[cL 3 ([] : List Vrow) Vrow.row,cL 1 ([] : List Int) intRow])]⟩) (fun v => spec_l9Any_J1 n r1 r3 v.1 v.2 = some r) ?_ ?_
    ·refine tB ?_
     refine Tr.loop (ι := Nat × (Int × (List Vrow) × (List Int))) (fun v => ⟨57,1,[sI 6 v.2.1,sA 5 5 2 0,sI 4 (IntKind.wrap .i64 (1 + r1.1)),sA 2 2 2 0,sA 0 0 3 0],[(0,(CV.frzRow (Src.row r3.2))),(5,[cL 3 v.2.2.1 Vrow.row,cL 1 v.2.2.2 intRow]),(2,[cL 3 ([] : List Vrow) Vrow.row,cL 1 ([] : List Int) intRow])]⟩) (fun v => spec_l9Any_L2 n v.1 v.2.1 v.2.2.1 v.2.2.2 = some o9) (fun v => v.1) (n,(0,r2.1.Rows,r2.1.Pvid)) eo9 (St.sub_of [6,5,4,2,0] [0,5,2] kr) ?_
     rintro ⟨mo9,y4,y5,y6⟩ H
     have H : spec_l9Any_L2 n mo9 y4 y5 y6 = some o9 := H
     obtain _ | mo9 := mo9
     ·cases (show (none : Option _) = some o9 from H)
     rw [spec_l9Any_L2] at H
     refine tS ?_
     refine tG tOk 2 0x800000000075 37 kr kr ?_
     obtain ⟨h5,H⟩ | ⟨h5,H⟩ := bC H
     ·refine tF h5 kr ?_
      refine Tr.exit ?_
      refine And.intro (fun _ => ?_) (fun h => absurd rfl h)
      obtain rfl := si H
      have H := Ho9
      dsimp only at H
      exact jn (y5,y6) H (sB_ [5,4,2,0] [0,5,2] kr)
     refine tT h5 kr ?_
     refine tK ?_
     refine tS ?_
     refine tB ?_
     refine Tr.at ?_
     refine lU tOk 4 kr ?_
     obtain ⟨r10,er10,H⟩ := bind_some H
     refine lV tOk [.rd,.rd] [.box 5] (spec_l9Row n (⟨y5,y6⟩ : Vtab) (⟨(IntKind.wrap .i64 (10 + y4)),0,0⟩ : Vrow) r10 er10) kr kr kr kr (.inr (rets_cons (Vtab.row_mine _) rets_nil)) ?_
     refine uD tOk 1 117 37 kr kr ?_
     refine tE tOk 3 117 37 kr kr ?_
     exact jn (mo9,((IntKind.wrap .i64 (y4 + 1)),r10.Rows,r10.Pvid)) H (sM mo9 [6,5,4,2,0] [0,5,2] kr)
    rintro ⟨y7,y8⟩ H
    have H : (spec_l9Any_J1 n r1 r3 y7 y8) = some r := H
    unfold spec_l9Any_J1 at H
    refine tG tOk 4 13 5 kr kr ?_
    refine te ?_
    obtain rfl := si H
    exact Fin.ofY _ [(true,[cL 3 y7 Vrow.row,cL 1 y8 intRow]),(false,[cI (IntKind.wrap .i64 (1 + r1.1))])] [] _ [] _ [(0,(CV.frzRow (Src.row r3.2)))] kr rfl rfl rfl kr kr kr kr rfl rfl rfl
   refine tT h3 kr ?_
   refine Tr.at ?_
   refine lU tOk 2 kr ?_
   obtain ⟨r11,er11,H⟩ := bind_some H
   refine LAt.callL tOk [.lend,.rd] (f := 56) (av := #[.tmp 41,.tmp 42]) (ats := #[100,27]) (d := (some 43)) (ty := 3) (g := none) kr kr kr [] (spec_l1Int n r3.2 [0,6,7] r11 er11) kr (.inl rfl) ?_
   refine uD tOk 1 53 37 kr kr ?_
   refine tG tOk 4 13 5 kr kr ?_
   refine te ?_
   obtain rfl := si H
   exact Fin.ofY _ [(true,(Vtab.row r2.1)),(false,[cI r11.1])] [] _ [] _ [(0,(CV.frzRow (Src.row r11.2)))] kr rfl rfl rfl kr kr kr kr rfl rfl rfl
  refine tT h2 kr ?_
  obtain ⟨r12,er12,H⟩ := bind_some H
  obtain ⟨v13,ev13,H⟩ := bind_some H
  refine tO ⟨57,1,[sB 31 (r3.1 == 1),sI 14 r3.1,sA 5 5 2 0,sI 4 (IntKind.wrap .i64 (1 + r1.1)),sA 2 2 2 0,sA 0 0 3 0],[(0,(CV.frzRow (Src.row r3.2))),(5,(Vtab.row r2.1)),(2,[cL 3 ([] : List Vrow) Vrow.row,cL 1 ([] : List Int) intRow])]⟩ kr ?_
  refine Tr.draw mixed 7 kr ⟨57,1,[sA 5 5 2 0,sI 4 (IntKind.wrap .i64 (1 + r1.1)),sA 2 2 2 0,sA 0 0 3 0],[(5,[cL 3 r2.1.Rows Vrow.row,cL 1 (r2.1.Pvid.set (((0 : Int)).toNat) r12.1) intRow]),(0,(CV.frzRow (Src.row r12.2))),(2,[cL 3 ([] : List Vrow) Vrow.row,cL 1 ([] : List Int) intRow])]⟩ (spec_l9Any_D1 n r3 r12 r2 v13 r1 er12 ev13) ?_
  refine tG tOk 4 13 5 kr kr ?_
  refine te ?_
  obtain rfl := si H
  exact Fin.ofY _ [(true,[cL 3 r2.1.Rows Vrow.row,cL 1 (r2.1.Pvid.set (((0 : Int)).toNat) r12.1) intRow]),(false,[cI (IntKind.wrap .i64 (1 + r1.1))])] [] _ [] _ [(0,(CV.frzRow (Src.row r12.2)))] kr rfl rfl rfl kr kr kr kr rfl rfl rfl
 refine tT h1 kr ?_
 obtain ⟨r14,er14,H⟩ := bind_some H
 obtain ⟨r15,er15,H⟩ := bind_some H
 obtain ⟨r16,er16,H⟩ := bind_some H
 obtain ⟨hg17,H⟩ := guard_some H
 refine tO ⟨57,1,[sB 15 (r3.1 == 0),sI 14 r3.1,sA 5 5 2 0,sI 4 (IntKind.wrap .i64 (1 + r1.1)),sA 2 2 2 0,sA 0 0 3 0],[(0,(CV.frzRow (Src.row r3.2))),(5,(Vtab.row r2.1)),(2,[cL 3 ([] : List Vrow) Vrow.row,cL 1 ([] : List Int) intRow])]⟩ kr ?_
 refine Tr.draw mixed 15 kr ⟨57,1,[sA 5 5 2 0,sI 4 (IntKind.wrap .i64 (1 + r1.1)),sA 2 2 2 0,sA 0 0 3 0],[(5,[cL 3 (r2.1.Rows ++ [(⟨r14.1,r15.1,r16.1⟩ : Vrow)]) Vrow.row,cL 1 r2.1.Pvid intRow]),(0,(CV.frzRow (Src.row r16.2))),(2,[cL 3 ([] : List Vrow) Vrow.row,cL 1 ([] : List Int) intRow])]⟩ (spec_l9Any_D2 n r3 r14 r15 r16 r2 r1 er14 er15 er16 hg17) ?_
 refine tG tOk 4 13 5 kr kr ?_
 refine te ?_
 obtain rfl := si H
 exact Fin.ofY _ [(true,[cL 3 (r2.1.Rows ++ [(⟨r14.1,r15.1,r16.1⟩ : Vrow)]) Vrow.row,cL 1 r2.1.Pvid intRow]),(false,[cI (IntKind.wrap .i64 (1 + r1.1))])] [] _ [] _ [(0,(CV.frzRow (Src.row r16.2)))] kr rfl rfl rfl kr kr kr kr rfl rfl rfl
def spec_DrawVtabOkF (n : Nat) (x0 : (List Int)) : Option (Vtab × Int) :=
  ((spec_l1NewF n x0).bind fun r1 => ((spec_l9AnyF n r1).bind fun r2 => (some (r2.1,r2.2.1))))
noncomputable abbrev G33 (k : Nat) := Rg Try.f33 k
theorem spec_DrawVtabOk (n : Nat) (x0 : (List Int)) (r : Vtab × Int) (H : spec_DrawVtabOkF n x0 = some r) : LCall Try.prog 33 [.val false [.sl false 1 (CV.frzEs (x0.map byteRow))]] [.val true (Vtab.row r.1),.val false [.lit (.int .i64 r.2)]] [] := by
 refine LCall.of_body tOk Try.func33 rfl (c := (.seq (G33 0) (.seq (G33 1) (.seq (G33 2) .ret)))) kr (Nat.le_of_ble_eq_true kr) 0 (rs := [.cell 2 29,.tmp 3]) rfl [] .nil [(true,(Vtab.row r.1)),(false,[.lit (.int .i64 r.2)])] [] [] fun cx => ?_
 show Tr _ _ _ ⟨11,0,[sC 0 (cF 1 x0 byteRow)],[]⟩ _
 unfold spec_DrawVtabOkF at H
 refine tG tOk 2 5 4 kr kr ?_
 refine rU tOk 1 kr ?_
 obtain ⟨r1,er1,H⟩ := bind_some H
 refine lV tOk [.rd] [] (spec_l1New n x0 r1 er1) kr kr kr kr (.inl rfl) ?_
 refine uD tOk 1 20 68 kr kr ?_
 refine rU tOk 1 kr ?_
 obtain ⟨r2,er2,H⟩ := bind_some H
 refine LAt.callL tOk [.lend] (f := 101) (av := #[.tmp 7]) (ats := #[100]) (d := (some 8)) (ty := 83) (g := none) kr kr kr [] (spec_l9Any n r1 r2 er2) kr (.inl rfl) ?_
 refine uD tOk 4 12 4 kr kr ?_
 exact te (by obtain rfl := si H; exact fO [(true,(Vtab.row r2.1)),(false,[cI r2.2.1])] kr rfl rfl)
def spec_l9TabF (n : Nat) (x0 : Src) : Option (Vtab × Src) :=
  ((spec_l9AnyF n x0).bind fun r1 => (some (r1.1,r1.2.2)))
noncomputable abbrev G109 (k : Nat) := Rg Try.f109 k
theorem spec_l9Tab (n : Nat) (x0 : Src) (r : Vtab × Src) (H : spec_l9TabF n x0 = some r) : LCall Try.prog 109 [.ptr (CV.frzRow (Src.row x0))] [.val true (Vtab.row r.1)] [(0,(CV.frzRow (Src.row r.2)))] := by
 refine LCall.of_body tOk Try.func109 rfl (c := (.seq (G109 0) (.seq (G109 1) (.seq (G109 2) .ret)))) kr (Nat.le_of_ble_eq_true kr) 1 (rs := [.cell 2 29]) rfl [] .nil [(true,(Vtab.row r.1))] [] [(0,(CV.frzRow (Src.row r.2)))] fun cx => ?_
 show Tr _ _ _ ⟨11,1,[sA 0 0 3 0],[(0,(CV.frzRow (Src.row x0)))]⟩ _
 unfold spec_l9TabF at H
 refine tG tOk 1 5 5 kr kr ?_
 refine rU tOk 1 kr ?_
 obtain ⟨r1,er1,H⟩ := bind_some H
 refine LAt.callL tOk [.lend] (f := 101) (av := #[.tmp 6]) (ats := #[100]) (d := (some 7)) (ty := 83) (g := none) kr kr kr [] (spec_l9Any n x0 r1 er1) kr (.inl rfl) ?_
 refine LAt.movT tOk (ty := 83) (t := 7) (d := 5) (g := none) [(true,(Vtab.row r1.1)),(false,[cI r1.2.1])] _ kr (.inl rfl) kr kr kr kr rfl ?_
 refine uD tOk 5 13 13 kr kr ?_
 refine tG tOk 2 5 5 kr kr ?_
 refine te ?_
 obtain rfl := si H
 exact Fin.ofY _ [(true,(Vtab.row r1.1))] [] _ [] _ [(0,(CV.frzRow (Src.row r1.2.2)))] kr rfl rfl rfl kr kr kr kr rfl rfl rfl
def spec_DrawRowAtF (n : Nat) (x0 : (List Int)) : Option (Vtab × Int) :=
  ((spec_l1NewF n x0).bind fun r1 => ((spec_l9TabF n r1).bind fun r2 => ((spec_l1IntF n r2.2 [1,2,3,0,9]).bind fun r3 => (some (r2.1,r3.1)))))
noncomputable abbrev G102 (k : Nat) := Rg Try.f102 k
theorem spec_DrawRowAt (n : Nat) (x0 : (List Int)) (r : Vtab × Int) (H : spec_DrawRowAtF n x0 = some r) : LCall Try.prog 102 [.val false [.sl false 1 (CV.frzEs (x0.map byteRow))]] [.val true (Vtab.row r.1),.val false [.lit (.int .i64 r.2)]] [] := by
 refine LCall.of_body tOk Try.func102 rfl (c := (.seq (G102 0) (.seq (G102 1) (.seq (G102 2) .ret)))) kr (Nat.le_of_ble_eq_true kr) 0 (rs := [.cell 2 29,.tmp 3]) rfl [] .nil [(true,(Vtab.row r.1)),(false,[.lit (.int .i64 r.2)])] [] [] fun cx => ?_
 show Tr _ _ _ ⟨12,0,[sC 0 (cF 1 x0 byteRow)],[]⟩ _
 unfold spec_DrawRowAtF at H
 refine tG tOk 2 5 4 kr kr ?_
 refine rU tOk 1 kr ?_
 obtain ⟨r1,er1,H⟩ := bind_some H
 refine lV tOk [.rd] [] (spec_l1New n x0 r1 er1) kr kr kr kr (.inl rfl) ?_
 refine uD tOk 1 20 68 kr kr ?_
 refine rU tOk 1 kr ?_
 obtain ⟨r2,er2,H⟩ := bind_some H
 refine LAt.callL tOk [.lend] (f := 109) (av := #[.tmp 7]) (ats := #[100]) (d := (some 8)) (ty := 29) (g := none) kr kr kr [] (spec_l9Tab n r1 r2 er2) kr (.inl rfl) ?_
 refine lU tOk 2 kr ?_
 obtain ⟨r3,er3,H⟩ := bind_some H
 refine LAt.callL tOk [.lend,.rd] (f := 56) (av := #[.tmp 9,.tmp 10]) (ats := #[100,27]) (d := (some 11)) (ty := 3) (g := none) kr kr kr [] (spec_l1Int n r2.2 [1,2,3,0,9] r3 er3) kr (.inl rfl) ?_
 refine uD tOk 2 12 4 kr kr ?_
 exact te (by obtain rfl := si H; exact fO [(true,(Vtab.row r2.1)),(false,[cI r3.1])] kr rfl rfl)
def spec_DrawDropRowF (n : Nat) (x0 : (List Int)) : Option (Vtab × Int) :=
  ((spec_DrawRowAtF n x0).bind fun r1 => (some (r1.1,r1.2)))
noncomputable abbrev G34 (k : Nat) := Rg Try.f34 k
theorem spec_DrawDropRow (n : Nat) (x0 : (List Int)) (r : Vtab × Int) (H : spec_DrawDropRowF n x0 = some r) : LCall Try.prog 34 [.val false [.sl false 1 (CV.frzEs (x0.map byteRow))]] [.val true (Vtab.row r.1),.val false [.lit (.int .i64 r.2)]] [] := by
 refine LCall.of_body tOk Try.func34 rfl (c := (.seq (G34 0) (.seq (G34 1) .ret))) kr (Nat.le_of_ble_eq_true kr) 0 (rs := [.cell 2 29,.tmp 3]) rfl [] .nil [(true,(Vtab.row r.1)),(false,[.lit (.int .i64 r.2)])] [] [] fun cx => ?_
 show Tr _ _ _ ⟨8,0,[sC 0 (cF 1 x0 byteRow)],[]⟩ _
 unfold spec_DrawDropRowF at H
 refine tG tOk 2 5 4 kr kr ?_
 refine rU tOk 1 kr ?_
 obtain ⟨r1,er1,H⟩ := bind_some H
 refine lV tOk [.rd] [] (spec_DrawRowAt n x0 r1 er1) kr kr kr kr (.inl rfl) ?_
 refine uD tOk 4 12 4 kr kr ?_
 exact te (by obtain rfl := si H; exact fO [(true,(Vtab.row r1.1)),(false,[cI r1.2])] kr rfl rfl)
def impl_RowAt_J1 (n : Nat) : Option (Int) :=
  (some (-1))
def impl_RowAt_L2 (n : Nat) : Nat → Vtab → Int → Int → Option ((Unit) ⊕ (Int))
  | 0,_,_,_ => none
  | mo2 + 1,x0,x1,y1 => (bif (decide (y1 < (x0.Rows.length : Int))) then ((idx x0.Rows y1).bind fun v3 => (bif (v3.Id == x1) then (some (Sum.inr y1)) else (impl_RowAt_L2 n mo2 x0 x1 (IntKind.wrap .i64 (y1 + 1))))) else (some (Sum.inl ())))
def impl_RowAtF (n : Nat) (x0 : Vtab) (x1 : Int) : Option (Int) :=
  ((impl_RowAt_L2 n n x0 x1 0).bind fun o => match o with | .inl _ => (impl_RowAt_J1 n) | .inr r => some r)
noncomputable abbrev G89 (k : Nat) := Rg Try.f89 k
theorem impl_RowAt (n : Nat) (x0 : Vtab) (x1 : Int) (r : Int) (H : impl_RowAtF n x0 x1 = some r) : LCall Try.prog 89 [.val true (CV.frzRow (Vtab.row x0)),.val false [.lit (.int .i64 x1)]] [.val false [.lit (.int .i64 r)]] [] := by
 refine LCall.of_body tOk Try.func89 rfl (c := (.seq (G89 0) (.seq (.seq (G89 1) (.block 0 (.loop (.seq (G89 2) (.seq (.cond (.tmp 11) .skip (.exit 0)) (.seq (.block 1 (.seq (G89 3) (.seq (G89 4) (.cond (.tmp 18) (.seq (G89 5) .ret) .skip)))) (G89 6))))))) (.seq (G89 7) .ret)))) kr (Nat.le_of_ble_eq_true kr) 0 (rs := [.tmp 4]) rfl [] .nil [(false,[.lit (.int .i64 r)])] [] [] fun cx => ?_
 show Tr _ _ _ ⟨21,0,[sV 0 (CV.frzRow (Vtab.row x0)),sI 1 x1],[]⟩ _
 unfold impl_RowAtF at H
 refine tG tOk 2 6 4 kr kr ?_
 refine tS ?_
 refine rU tOk 2 kr ?_
 refine lL tOk 26 3 124 8 9 none ⟨(.slot 8),[],0,false,3,(CV.frzEs (x0.Rows.map Vrow.row))⟩ (x0.Rows).length _ kr kr kr kr kr (frz_len _ _) rfl ?_
 refine uD tOk 1 1794 0 kr kr ?_
 obtain ⟨o2,eo2,Ho2⟩ := bind_some H
 clear H
 refine Tr.mid (ι := Unit) (fun v => ⟨21,0,[],[]⟩) (fun v => impl_RowAt_J1 n = some r) ?_ ?_
 ·refine tB ?_
  refine Tr.loop (ι := Nat × (Int)) (fun v => ⟨21,0,[sI 10 v.2,sI 9 (x0.Rows.length : Int),sC 8 (cF 3 x0.Rows Vrow.row),sI 1 x1],[]⟩) (fun v => impl_RowAt_L2 n v.1 x0 x1 v.2 = some o2) (fun v => v.1) (n,0) eo2 (St.sub_of [10,9,8,1] [] kr) ?_
  rintro ⟨mo2,y1⟩ H
  have H : impl_RowAt_L2 n mo2 x0 x1 y1 = some o2 := H
  obtain _ | mo2 := mo2
  ·cases (show (none : Option _) = some o2 from H)
  rw [impl_RowAt_L2] at H
  refine tG tOk 1 3842 0 kr kr ?_
  refine tS ?_
  obtain ⟨h1,H⟩ | ⟨h1,H⟩ := bC H
  ·refine tF h1 kr ?_
   refine Tr.exit ?_
   refine And.intro (fun _ => ?_) (fun h => absurd rfl h)
   obtain rfl := si H
   have H := Ho2
   dsimp only at H
   exact jn () H (sB_ [] [] kr)
  refine tT h1 kr ?_
  refine tK ?_
  refine tS ?_
  refine tB ?_
  refine rU tOk 1 kr ?_
  obtain ⟨v3,ev3,H⟩ := bind_some H
  refine lI tOk 26 0 8 10 13 none ⟨(.slot 8),[],0,false,3,(CV.frzEs (x0.Rows.map Vrow.row))⟩ y1 (Vrow.row v3) _ kr kr kr kr rfl (idx_isF ev3) rfl ?_
  refine uD tOk 4 1890 64 kr kr ?_
  refine tG tOk 4 263970 0 kr kr ?_
  obtain ⟨h2,H⟩ | ⟨h2,H⟩ := bC H
  ·refine tF h2 kr ?_
   refine tK ?_
   refine tE tOk 2 1794 0 kr kr ?_
   exact jn (mo2,(IntKind.wrap .i64 (y1 + 1))) H (sM mo2 [10,9,8,1] [] kr)
  refine tT h2 kr ?_
  refine tG tOk 2 16 0 kr kr ?_
  refine te ?_
  obtain rfl := si H
  have H := Ho2
  dsimp only at H
  obtain rfl := si H
  exact fO [(false,[cI y1])] kr rfl rfl
 rintro _ H
 have H : (impl_RowAt_J1 n) = some r := H
 unfold impl_RowAt_J1 at H
 refine tG tOk 1 16 0 kr kr ?_
 exact te (by obtain rfl := si H; exact fO [(false,[cI (-1)])] kr rfl rfl)
def impl_copyIntsF (n : Nat) (x0 : (List Int)) : Option ((List Int)) :=
  (bif (decide (([] : List Int).length + x0.length ≤ 268435456)) then (some (([] : List Int) ++ x0)) else none)
noncomputable abbrev G155 (k : Nat) := Rg Try.f155 k
theorem impl_copyInts (n : Nat) (x0 : (List Int)) (r : (List Int)) (H : impl_copyIntsF n x0 = some r) : LCall Try.prog 155 [.val false [.sl false 1 (CV.frzEs (x0.map intRow))]] [.val false [.sl true 1 (r.map intRow)]] [] := by
 refine LCall.of_body tOk Try.func155 rfl (c := (.seq (G155 0) (.seq (G155 1) .ret))) kr (Nat.le_of_ble_eq_true kr) 0 (rs := [.tmp 2]) rfl [] .nil [(false,[.sl true 1 (r.map intRow)])] [] [] fun cx => ?_
 show Tr _ _ _ ⟨5,0,[sC 0 (cF 1 x0 intRow)],[]⟩ _
 unfold impl_copyIntsF at H
 refine tG tOk 1 1 0 kr kr ?_
 refine rU tOk 1 kr ?_
 obtain ⟨hg1,H⟩ := guard_some H
 refine LAt.appCU tOk (t := 27) (ty := 27) (e := 3) (x := (.const (.slice none 0 0))) (y := (.tmp 3)) (d := 4) (g := none) (tI 3) intRow ([] : List Int) x0 ⟨(.slot 3),[],0,false,1,(CV.frzEs (x0.map intRow))⟩ kr kr kr kr kr kr kr kr kr kr kr (.inr rfl) (fun _ => rfl) (fun _ => rfl) hg1 ?_
 refine LAt.moveU (T := lk tab) (ty := 27) (x := (.tmp 4)) (d := 2) (g := none) false [cL 1 (([] : List Int) ++ x0) intRow] kr kr kr kr kr ?_
 refine lD 4 0 kr ?_
 exact te (by obtain rfl := si H; exact fO [(false,[cL 1 (([] : List Int) ++ x0) intRow])] kr rfl rfl)
def impl_copyVtabF (n : Nat) (x0 : Vtab) : Option (Vtab) :=
  (bif (decide (([] : List Vrow).length + x0.Rows.length ≤ 268435456)) then ((impl_copyIntsF n x0.Pvid).bind fun r2 => (some (⟨(([] : List Vrow) ++ x0.Rows),r2⟩ : Vtab))) else none)
def T103x1 : Tab := ⟨8,[0,1,2,0,8,20,36,127],[0,1,2,0,8,16,36,64],[0,1,3,0,8,31,63,127]⟩
noncomputable abbrev G103 (k : Nat) := Rg Try.f103 k
noncomputable abbrev D103 (k : Nat) := Rd Try.f103 k
theorem K103x1 : tabOk (rg Try.f103 1) T103x1 = true := kr
theorem impl_copyVtab_D1 (n : Nat) (x0 : Vtab) (r2 : (List Int)) (hg1 : (decide (([] : List Vrow).length + x0.Rows.length ≤ 268435456)) = true) (er2 : (impl_copyIntsF n x0.Pvid) = some r2) (cx : Cx) : AT Try.prog cx (rg Try.f103 1) [] 8 [] ⟨10,0,[sA 2 2 2 0,sA 1 1 2 0],[(2,[cL 3 ([] : List Vrow) Vrow.row,cL 1 ([] : List Int) intRow]),(1,(CV.frzRow (Vtab.row x0)))]⟩ (fun s => s = ⟨10,0,[sA 2 2 2 0],[(2,[cL 3 (([] : List Vrow) ++ x0.Rows) Vrow.row,cL 1 r2 intRow])]⟩) := by
 refine mU tOk K103x1 [(0,[]),(1,[2,5,6,7]),(3,[]),(4,[5,6,7])] 4 [⟨[5,6,7],27,6,7⟩,⟨[2,5,6,7],26,3,4⟩] [4,3,1,0] rfl kr (fun cx => ?_)
 refine mB1 tOk K103x1 2 kr kr ?_
 refine LAt.appCU tOk (t := 26) (ty := 26) (e := 124) (x := (.const (.slice none 0 0))) (y := (.tmp 4)) (d := 5) (g := none) (tI 124) Vrow.row ([] : List Vrow) x0.Rows ⟨(.box 1),[(0,0)],0,false,3,(CV.frzEs (x0.Rows.map Vrow.row))⟩ kr kr kr kr kr kr kr kr kr kr kr (.inr rfl) (fun _ => rfl) (fun _ => rfl) hg1 ?_
 refine lF kr kr kr ?_
 refine mB1 tOk K103x1 5 kr kr ?_
 refine lV tOk [.rd] [] (impl_copyInts n x0.Pvid r2 er2) kr kr kr kr (.inl rfl) ?_
 refine lF kr kr kr ?_
 refine mB1 tOk K103x1 6 kr kr ?_
 refine lU tOk 1 kr ?_
 refine lF kr kr kr ?_
 refine mB1 tOk K103x1 7 kr kr ?_
 refine lU tOk 1 kr ?_
 refine lF kr kr kr ?_
 exact mD K103x1 [2] [2] _ kr kr rfl
theorem impl_copyVtab (n : Nat) (x0 : Vtab) (r : Vtab) (H : impl_copyVtabF n x0 = some r) : LCall Try.prog 103 [.val true (CV.frzRow (Vtab.row x0))] [.val true (Vtab.row r)] [] := by
 refine LCall.of_body tOk Try.func103 rfl (c := (.seq (G103 0) (.seq (D103 1) .ret))) kr (Nat.le_of_ble_eq_true kr) 0 (rs := [.cell 2 29]) rfl [] .nil [(true,(Vtab.row r))] [] [] fun cx => ?_
 show Tr _ _ _ ⟨10,0,[sV 0 (CV.frzRow (Vtab.row x0))],[]⟩ _
 unfold impl_copyVtabF at H
 refine tG tOk 2 6 6 kr kr ?_
 obtain ⟨hg1,H⟩ := guard_some H
 obtain ⟨r2,er2,H⟩ := bind_some H
 refine tO ⟨10,0,[sA 2 2 2 0,sA 1 1 2 0],[(2,[cL 3 ([] : List Vrow) Vrow.row,cL 1 ([] : List Int) intRow]),(1,(CV.frzRow (Vtab.row x0)))]⟩ kr ?_
 refine Tr.draws mixed 8 kr ⟨10,0,[sA 2 2 2 0],[(2,[cL 3 (([] : List Vrow) ++ x0.Rows) Vrow.row,cL 1 r2 intRow])]⟩ (impl_copyVtab_D1 n x0 r2 hg1 er2) ?_
 exact te (by obtain rfl := si H; exact fO [(true,[cL 3 (([] : List Vrow) ++ x0.Rows) Vrow.row,cL 1 r2 intRow])] kr rfl rfl)
def impl_withoutRowF (n : Nat) (x0 : Vtab) (x1 : Int) : Option (Vtab) :=
  ((impl_copyVtabF n x0).bind fun r1 => ((impl_RowAtF n x0 x1).bind fun r2 => (bif (decide (r2 ≥ 0)) then (bif (decide ((0 : Int) ≤ 0) && (decide ((0 : Int) ≤ r2) && decide ((r2 : Int) ≤ (x0.Rows.length : Int)))) then (bif (decide (([] : List Vrow).length + ((x0.Rows.drop ((0 : Int)).toNat).take (((r2 : Int)).toNat - ((0 : Int)).toNat)).length ≤ 268435456)) then (bif (decide ((0 : Int) ≤ (IntKind.wrap .i64 (r2 + 1))) && (decide (((IntKind.wrap .i64 (r2 + 1)) : Int) ≤ (x0.Rows.length : Int)) && decide (((x0.Rows.length : Int) : Int) ≤ (x0.Rows.length : Int)))) then (bif (decide ((([] : List Vrow) ++ ((x0.Rows.drop ((0 : Int)).toNat).take (((r2 : Int)).toNat - ((0 : Int)).toNat))).length + ((x0.Rows.drop (((IntKind.wrap .i64 (r2 + 1)) : Int)).toNat).take ((((x0.Rows.length : Int) : Int)).toNat - (((IntKind.wrap .i64 (r2 + 1)) : Int)).toNat)).length ≤ 268435456)) then (some (⟨((([] : List Vrow) ++ ((x0.Rows.drop ((0 : Int)).toNat).take (((r2 : Int)).toNat - ((0 : Int)).toNat))) ++ ((x0.Rows.drop (((IntKind.wrap .i64 (r2 + 1)) : Int)).toNat).take ((((x0.Rows.length : Int) : Int)).toNat - (((IntKind.wrap .i64 (r2 + 1)) : Int)).toNat))),r1.Pvid⟩ : Vtab)) else none) else none) else none) else none) else (some r1))))
def T105x4 : Tab := ⟨13,[0,1,0,6,8,0,32,0,128,320,528,2047,4095],[0,1,0,6,8,0,32,0,128,320,528,0,3072],[0,1,0,7,15,0,32,0,128,480,1023,2047,4095]⟩
noncomputable abbrev G105 (k : Nat) := Rg Try.f105 k
noncomputable abbrev D105 (k : Nat) := Rd Try.f105 k
theorem K105x4 : tabOk (rg Try.f105 4) T105x4 = true := kr
theorem impl_withoutRow_D1 (n : Nat) (x0 : Vtab) (r2 : Int) (r1 : Vtab) (hg3 : (decide ((0 : Int) ≤ 0) && (decide ((0 : Int) ≤ r2) && decide ((r2 : Int) ≤ (x0.Rows.length : Int)))) = true) (hg4 : (decide (([] : List Vrow).length + ((x0.Rows.drop ((0 : Int)).toNat).take (((r2 : Int)).toNat - ((0 : Int)).toNat)).length ≤ 268435456)) = true) (hg5 : (decide ((0 : Int) ≤ (IntKind.wrap .i64 (r2 + 1))) && (decide (((IntKind.wrap .i64 (r2 + 1)) : Int) ≤ (x0.Rows.length : Int)) && decide (((x0.Rows.length : Int) : Int) ≤ (x0.Rows.length : Int)))) = true) (hg6 : (decide ((([] : List Vrow) ++ ((x0.Rows.drop ((0 : Int)).toNat).take (((r2 : Int)).toNat - ((0 : Int)).toNat))).length + ((x0.Rows.drop (((IntKind.wrap .i64 (r2 + 1)) : Int)).toNat).take ((((x0.Rows.length : Int) : Int)).toNat - (((IntKind.wrap .i64 (r2 + 1)) : Int)).toNat)).length ≤ 268435456)) = true) (cx : Cx) : AT Try.prog cx (rg Try.f105 4) [] 13 [] ⟨27,0,[sB 13 (decide (r2 ≥ 0)),sI 6 r2,sA 5 5 2 0,sA 4 4 2 0,sA 2 2 2 0],[(5,(Vtab.row r1)),(4,[cL 3 ([] : List Vrow) Vrow.row,cL 1 ([] : List Int) intRow]),(2,(CV.frzRow (Vtab.row x0)))]⟩ (fun s => s = ⟨27,0,[sA 5 5 2 0,sA 4 4 2 0],[(5,[cL 3 ((([] : List Vrow) ++ ((x0.Rows.drop ((0 : Int)).toNat).take (((r2 : Int)).toNat - ((0 : Int)).toNat))) ++ ((x0.Rows.drop (((IntKind.wrap .i64 (r2 + 1)) : Int)).toNat).take ((((x0.Rows.length : Int) : Int)).toNat - (((IntKind.wrap .i64 (r2 + 1)) : Int)).toNat))) Vrow.row,cL 1 r1.Pvid intRow]),(4,[cL 3 ([] : List Vrow) Vrow.row,cL 1 ([] : List Int) intRow])]⟩) := by
 refine mU tOk K105x4 [(0,[]),(1,[3,4,10,12]),(2,[]),(5,[]),(6,[9,10,12]),(7,[]),(8,[])] 6 [⟨[9,10,12],26,19,20⟩,⟨[3,4,10,12],26,14,15⟩] [8,7,6,5,2,1,0] rfl kr (fun cx => ?_)
 refine mB2 tOk K105x4 3 9 kr (And.intro kr ?_) (And.intro kr ?_)
 ·refine LAt.cutG tOk (t := 26) (ty := 26) (e := 124) (x := (.tmp 15)) (lo := none) (hi := (some (.tmp 16))) (d := 17) (g := none) (tI 124) Vrow.row x0.Rows ⟨(.box 2),[(0,0)],0,false,3,(CV.frzEs (x0.Rows.map Vrow.row))⟩ 0 r2 kr kr kr kr kr kr rfl kr rfl kr kr hg3 ?_
  refine lF kr kr kr ?_
  refine mB2 tOk K105x4 4 9 kr (And.intro kr ?_) (And.intro kr ?_)
  ·refine LAt.appCU tOk (t := 26) (ty := 26) (e := 124) (x := (.const (.slice none 0 0))) (y := (.tmp 17)) (d := 18) (g := none) (tI 124) Vrow.row ([] : List Vrow) ((x0.Rows.drop ((0 : Int)).toNat).take (((r2 : Int)).toNat - ((0 : Int)).toNat)) ⟨(.slot 17),[],0,false,3,(CV.frzEs (((x0.Rows.drop ((0 : Int)).toNat).take (((r2 : Int)).toNat - ((0 : Int)).toNat)).map Vrow.row))⟩ kr kr kr kr kr kr kr kr kr kr kr (.inr rfl) (fun _ => rfl) (fun _ => rfl) hg4 ?_
   refine lF kr kr kr ?_
   refine mB1 tOk K105x4 9 kr kr ?_
   refine LAt.cutG tOk (t := 26) (ty := 26) (e := 124) (x := (.tmp 20)) (lo := (some (.tmp 22))) (hi := none) (d := 23) (g := none) (tI 124) Vrow.row x0.Rows ⟨(.box 2),[(0,0)],0,false,3,(CV.frzEs (x0.Rows.map Vrow.row))⟩ (IntKind.wrap .i64 (r2 + 1)) (x0.Rows.length : Int) kr kr kr kr kr kr rfl kr rfl kr kr hg5 ?_
   refine lF kr kr kr ?_
   refine mB1 tOk K105x4 10 kr kr ?_
   refine LAt.appCU tOk (t := 26) (ty := 26) (e := 124) (x := (.tmp 18)) (y := (.tmp 23)) (d := 24) (g := none) (tI 124) Vrow.row (([] : List Vrow) ++ ((x0.Rows.drop ((0 : Int)).toNat).take (((r2 : Int)).toNat - ((0 : Int)).toNat))) ((x0.Rows.drop (((IntKind.wrap .i64 (r2 + 1)) : Int)).toNat).take ((((x0.Rows.length : Int) : Int)).toNat - (((IntKind.wrap .i64 (r2 + 1)) : Int)).toNat)) ⟨(.slot 23),[],0,false,3,(CV.frzEs (((x0.Rows.drop (((IntKind.wrap .i64 (r2 + 1)) : Int)).toNat).take ((((x0.Rows.length : Int) : Int)).toNat - (((IntKind.wrap .i64 (r2 + 1)) : Int)).toNat)).map Vrow.row))⟩ kr kr kr kr kr kr kr kr kr kr kr (.inr rfl) (fun _ => rfl) (fun _ => rfl) hg6 ?_
   refine lF kr kr kr ?_
   refine mU tOk K105x4 [(11,[])] 1 [⟨[9,10,12],26,19,20⟩,⟨[3,4,10,12],26,14,15⟩] [11,10,9,4,3,8,7,6,5,2,1,0] rfl kr (fun cx => ?_)
   refine mB1 tOk K105x4 12 kr kr ?_
   refine lU tOk 1 kr ?_
   refine lF kr kr kr ?_
   exact mD K105x4 [5,4] [5,4] _ kr kr rfl
  ·refine LAt.cutG tOk (t := 26) (ty := 26) (e := 124) (x := (.tmp 20)) (lo := (some (.tmp 22))) (hi := none) (d := 23) (g := none) (tI 124) Vrow.row x0.Rows ⟨(.box 2),[(0,0)],0,false,3,(CV.frzEs (x0.Rows.map Vrow.row))⟩ (IntKind.wrap .i64 (r2 + 1)) (x0.Rows.length : Int) kr kr kr kr kr kr rfl kr rfl kr kr hg5 ?_
   refine lF kr kr kr ?_
   refine mB1 tOk K105x4 4 kr kr ?_
   refine LAt.appCU tOk (t := 26) (ty := 26) (e := 124) (x := (.const (.slice none 0 0))) (y := (.tmp 17)) (d := 18) (g := none) (tI 124) Vrow.row ([] : List Vrow) ((x0.Rows.drop ((0 : Int)).toNat).take (((r2 : Int)).toNat - ((0 : Int)).toNat)) ⟨(.slot 17),[],0,false,3,(CV.frzEs (((x0.Rows.drop ((0 : Int)).toNat).take (((r2 : Int)).toNat - ((0 : Int)).toNat)).map Vrow.row))⟩ kr kr kr kr kr kr kr kr kr kr kr (.inr rfl) (fun _ => rfl) (fun _ => rfl) hg4 ?_
   refine lF kr kr kr ?_
   refine mB1 tOk K105x4 10 kr kr ?_
   refine LAt.appCU tOk (t := 26) (ty := 26) (e := 124) (x := (.tmp 18)) (y := (.tmp 23)) (d := 24) (g := none) (tI 124) Vrow.row (([] : List Vrow) ++ ((x0.Rows.drop ((0 : Int)).toNat).take (((r2 : Int)).toNat - ((0 : Int)).toNat))) ((x0.Rows.drop (((IntKind.wrap .i64 (r2 + 1)) : Int)).toNat).take ((((x0.Rows.length : Int) : Int)).toNat - (((IntKind.wrap .i64 (r2 + 1)) : Int)).toNat)) ⟨(.slot 23),[],0,false,3,(CV.frzEs (((x0.Rows.drop (((IntKind.wrap .i64 (r2 + 1)) : Int)).toNat).take ((((x0.Rows.length : Int) : Int)).toNat - (((IntKind.wrap .i64 (r2 + 1)) : Int)).toNat)).map Vrow.row))⟩ kr kr kr kr kr kr kr kr kr kr kr (.inr rfl) (fun _ => rfl) (fun _ => rfl) hg6 ?_
   refine lF kr kr kr ?_
   refine mU tOk K105x4 [(11,[])] 1 [⟨[9,10,12],26,19,20⟩,⟨[3,4,10,12],26,14,15⟩] [11,10,4,9,3,8,7,6,5,2,1,0] rfl kr (fun cx => ?_)
   refine mB1 tOk K105x4 12 kr kr ?_
   refine lU tOk 1 kr ?_
   refine lF kr kr kr ?_
   exact mD K105x4 [5,4] [5,4] _ kr kr rfl
 ·refine LAt.cutG tOk (t := 26) (ty := 26) (e := 124) (x := (.tmp 20)) (lo := (some (.tmp 22))) (hi := none) (d := 23) (g := none) (tI 124) Vrow.row x0.Rows ⟨(.box 2),[(0,0)],0,false,3,(CV.frzEs (x0.Rows.map Vrow.row))⟩ (IntKind.wrap .i64 (r2 + 1)) (x0.Rows.length : Int) kr kr kr kr kr kr rfl kr rfl kr kr hg5 ?_
  refine lF kr kr kr ?_
  refine mB1 tOk K105x4 3 kr kr ?_
  refine LAt.cutG tOk (t := 26) (ty := 26) (e := 124) (x := (.tmp 15)) (lo := none) (hi := (some (.tmp 16))) (d := 17) (g := none) (tI 124) Vrow.row x0.Rows ⟨(.box 2),[(0,0)],0,false,3,(CV.frzEs (x0.Rows.map Vrow.row))⟩ 0 r2 kr kr kr kr kr kr rfl kr rfl kr kr hg3 ?_
  refine lF kr kr kr ?_
  refine mB1 tOk K105x4 4 kr kr ?_
  refine LAt.appCU tOk (t := 26) (ty := 26) (e := 124) (x := (.const (.slice none 0 0))) (y := (.tmp 17)) (d := 18) (g := none) (tI 124) Vrow.row ([] : List Vrow) ((x0.Rows.drop ((0 : Int)).toNat).take (((r2 : Int)).toNat - ((0 : Int)).toNat)) ⟨(.slot 17),[],0,false,3,(CV.frzEs (((x0.Rows.drop ((0 : Int)).toNat).take (((r2 : Int)).toNat - ((0 : Int)).toNat)).map Vrow.row))⟩ kr kr kr kr kr kr kr kr kr kr kr (.inr rfl) (fun _ => rfl) (fun _ => rfl) hg4 ?_
  refine lF kr kr kr ?_
  refine mB1 tOk K105x4 10 kr kr ?_
  refine LAt.appCU tOk (t := 26) (ty := 26) (e := 124) (x := (.tmp 18)) (y := (.tmp 23)) (d := 24) (g := none) (tI 124) Vrow.row (([] : List Vrow) ++ ((x0.Rows.drop ((0 : Int)).toNat).take (((r2 : Int)).toNat - ((0 : Int)).toNat))) ((x0.Rows.drop (((IntKind.wrap .i64 (r2 + 1)) : Int)).toNat).take ((((x0.Rows.length : Int) : Int)).toNat - (((IntKind.wrap .i64 (r2 + 1)) : Int)).toNat)) ⟨(.slot 23),[],0,false,3,(CV.frzEs (((x0.Rows.drop (((IntKind.wrap .i64 (r2 + 1)) : Int)).toNat).take ((((x0.Rows.length : Int) : Int)).toNat - (((IntKind.wrap .i64 (r2 + 1)) : Int)).toNat)).map Vrow.row))⟩ kr kr kr kr kr kr kr kr kr kr kr (.inr rfl) (fun _ => rfl) (fun _ => rfl) hg6 ?_
  refine lF kr kr kr ?_
  refine mU tOk K105x4 [(11,[])] 1 [⟨[9,10,12],26,19,20⟩,⟨[3,4,10,12],26,14,15⟩] [11,10,4,3,9,8,7,6,5,2,1,0] rfl kr (fun cx => ?_)
  refine mB1 tOk K105x4 12 kr kr ?_
  refine lU tOk 1 kr ?_
  refine lF kr kr kr ?_
  exact mD K105x4 [5,4] [5,4] _ kr kr rfl
theorem impl_withoutRow (n : Nat) (x0 : Vtab) (x1 : Int) (r : Vtab) (H : impl_withoutRowF n x0 x1 = some r) : LCall Try.prog 105 [.val true (CV.frzRow (Vtab.row x0)),.val false [.lit (.int .i64 x1)]] [.val true (Vtab.row r)] [] := by
 refine LCall.of_body tOk Try.func105 rfl (c := (.seq (G105 0) (.seq (G105 1) (.seq (.seq (G105 2) (.seq (G105 3) (.cond (.tmp 13) (D105 4) .skip))) (.seq (G105 5) .ret))))) kr (Nat.le_of_ble_eq_true kr) 0 (rs := [.cell 4 29]) rfl [] .nil [(true,(Vtab.row r))] [] [] fun cx => ?_
 show Tr _ _ _ ⟨27,0,[sV 0 (CV.frzRow (Vtab.row x0)),sI 1 x1],[]⟩ _
 unfold impl_withoutRowF at H
 refine tG tOk 2 22 20 kr kr ?_
 refine rU tOk 1 kr ?_
 obtain ⟨r1,er1,H⟩ := bind_some H
 refine lV tOk [.rd] [] (impl_copyVtab n x0 r1 er1) kr kr kr kr (.inl rfl) ?_
 refine uD tOk 2 54 52 kr kr ?_
 refine tS ?_
 refine rU tOk 2 kr ?_
 obtain ⟨r2,er2,H⟩ := bind_some H
 refine lV tOk [.rd,.rd] [] (impl_RowAt n x0 x1 r2 er2) kr kr kr kr (.inl rfl) ?_
 refine uD tOk 1 116 52 kr kr ?_
 refine tG tOk 2 8308 52 kr kr ?_
 obtain ⟨h1,H⟩ | ⟨h1,H⟩ := bC H
 ·refine tF h1 kr ?_
  refine tK ?_
  refine tG tOk 2 16 16 kr kr ?_
  exact te (by obtain rfl := si H; exact fO [(true,(Vtab.row r1))] kr rfl rfl)
 refine tT h1 kr ?_
 obtain ⟨hg3,H⟩ := guard_some H
 obtain ⟨hg4,H⟩ := guard_some H
 obtain ⟨hg5,H⟩ := guard_some H
 obtain ⟨hg6,H⟩ := guard_some H
 refine tO ⟨27,0,[sB 13 (decide (r2 ≥ 0)),sI 6 r2,sA 5 5 2 0,sA 4 4 2 0,sA 2 2 2 0],[(5,(Vtab.row r1)),(4,[cL 3 ([] : List Vrow) Vrow.row,cL 1 ([] : List Int) intRow]),(2,(CV.frzRow (Vtab.row x0)))]⟩ kr ?_
 refine Tr.draw mixed 13 kr ⟨27,0,[sA 5 5 2 0,sA 4 4 2 0],[(5,[cL 3 ((([] : List Vrow) ++ ((x0.Rows.drop ((0 : Int)).toNat).take (((r2 : Int)).toNat - ((0 : Int)).toNat))) ++ ((x0.Rows.drop (((IntKind.wrap .i64 (r2 + 1)) : Int)).toNat).take ((((x0.Rows.length : Int) : Int)).toNat - (((IntKind.wrap .i64 (r2 + 1)) : Int)).toNat))) Vrow.row,cL 1 r1.Pvid intRow]),(4,[cL 3 ([] : List Vrow) Vrow.row,cL 1 ([] : List Int) intRow])]⟩ (impl_withoutRow_D1 n x0 r2 r1 hg3 hg4 hg5 hg6) ?_
 refine tG tOk 2 16 16 kr kr ?_
 exact te (by obtain rfl := si H; exact fO [(true,[cL 3 ((([] : List Vrow) ++ ((x0.Rows.drop ((0 : Int)).toNat).take (((r2 : Int)).toNat - ((0 : Int)).toNat))) ++ ((x0.Rows.drop (((IntKind.wrap .i64 (r2 + 1)) : Int)).toNat).take ((((x0.Rows.length : Int) : Int)).toNat - (((IntKind.wrap .i64 (r2 + 1)) : Int)).toNat))) Vrow.row,cL 1 r1.Pvid intRow])] kr rfl rfl)
end Go.Proofs.Ytcegokjpmppdbaa.Tw
