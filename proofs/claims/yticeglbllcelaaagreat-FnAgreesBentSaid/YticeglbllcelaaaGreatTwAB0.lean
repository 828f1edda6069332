import Derived.Test.YticeglbllcelaaaGreatProg
import Derived.Test.YticeglbllcelaaaGreatTlRule
import Derived.Test.YticeglbllcelaaaGreatTlU16
import Derived.WalkKit
set_option linter.unusedVariables false
set_option linter.unusedSimpArgs false
set_option maxRecDepth 100000
set_option maxHeartbeats 1000000
namespace Go.Proofs.YticeglbllcelaaaGreat.Tw
open Go Go.TL Go.Proofs
def tab:List (Nat×TI):=[(2,⟨.int .i64,1,8,[.lit (.int .i64 0)]⟩),
  (3,⟨.int .i64,1,8,[.lit (.int .i64 0)]⟩),
  (4,⟨.bool,1,1,[.lit (.bool false)]⟩),
  (5,⟨.int .u8,1,1,[.lit (.int .u8 0)]⟩),
  (6,⟨.int .u8,1,1,[.lit (.int .u8 0)]⟩),
  (7,⟨.st [(0,1,2),(1,1,3),(2,1,4),(3,1,6)],4,24,[.lit (.int .i64 0),.lit (.int .i64 0),.lit (.bool false),.lit (.int .u8 0)]⟩),
  (8,⟨.st [(0,1,2),(1,1,3),(2,1,4),(3,1,6)],4,24,[.lit (.int .i64 0),.lit (.int .i64 0),.lit (.bool false),.lit (.int .u8 0)]⟩),
  (9,⟨.str,1,16,[.lit (.string ⟨#[]⟩)]⟩),
  (22,⟨.sl 5,1,24,[.sl true 1 []]⟩),
  (24,⟨.sl 64,1,24,[.sl true 11 []]⟩),
  (25,⟨.sl 70,1,24,[.sl true 4 []]⟩),
  (26,⟨.sl 101,1,24,[.sl true 7 []]⟩),
  (28,⟨.st [(0,1,24),(1,1,25),(2,1,26)],3,72,[.sl true 11 [],.sl true 4 [],.sl true 7 []]⟩),
  (30,⟨.sl 3,1,24,[.sl true 1 []]⟩),
  (45,⟨.st [(0,1,3),(1,1,3)],2,16,[.lit (.int .i64 0),.lit (.int .i64 0)]⟩),
  (58,⟨.sl 83,1,24,[.sl true 8 []]⟩),
  (59,⟨.sl 127,1,24,[.sl true 5 []]⟩),
  (60,⟨.sl 150,1,24,[.sl true 3 []]⟩),
  (62,⟨.st [(0,1,60),(1,1,30)],2,48,[.sl true 3 [],.sl true 1 []]⟩),
  (64,⟨.st [(0,1,3),(1,1,9),(2,1,58),(3,1,59),(4,2,62),(6,1,3),(7,1,3),(8,1,3),(9,1,3),(10,1,3)],11,160,[.lit (.int .i64 0),.lit (.string ⟨#[]⟩),.sl true 8 [],.sl true 5 [],.sl true 3 [],.sl true 1 [],.lit (.int .i64 0),.lit (.int .i64 0),.lit (.int .i64 0),.lit (.int .i64 0),.lit (.int .i64 0)]⟩),
  (70,⟨.st [(0,1,3),(1,1,3),(2,1,3),(3,1,3)],4,32,[.lit (.int .i64 0),.lit (.int .i64 0),.lit (.int .i64 0),.lit (.int .i64 0)]⟩),
  (73,⟨.st [(0,1,3),(1,1,3),(2,1,3),(3,1,3),(4,1,3)],5,40,[.lit (.int .i64 0),.lit (.int .i64 0),.lit (.int .i64 0),.lit (.int .i64 0),.lit (.int .i64 0)]⟩),
  (78,⟨.sl 4,1,24,[.sl true 1 []]⟩),
  (83,⟨.st [(0,1,4),(1,1,3),(2,1,4),(3,5,73)],8,64,[.lit (.bool false),.lit (.int .i64 0),.lit (.bool false),.lit (.int .i64 0),.lit (.int .i64 0),.lit (.int .i64 0),.lit (.int .i64 0),.lit (.int .i64 0)]⟩),
  (101,⟨.st [(0,1,3),(1,1,4),(2,5,73)],7,56,[.lit (.int .i64 0),.lit (.bool false),.lit (.int .i64 0),.lit (.int .i64 0),.lit (.int .i64 0),.lit (.int .i64 0),.lit (.int .i64 0)]⟩),
  (106,⟨.st [(0,1,22),(1,1,3),(2,1,3)],3,40,[.sl true 1 [],.lit (.int .i64 0),.lit (.int .i64 0)]⟩),
  (127,⟨.st [(0,1,3),(1,1,3),(2,1,3),(3,1,3),(4,1,4)],5,40,[.lit (.int .i64 0),.lit (.int .i64 0),.lit (.int .i64 0),.lit (.int .i64 0),.lit (.bool false)]⟩),
  (133,⟨.int .u64,1,8,[.lit (.int .u64 0)]⟩),
  (135,⟨.sl 9,1,24,[.sl true 1 []]⟩),
  (150,⟨.st [(0,1,3),(1,1,3),(2,1,3)],3,24,[.lit (.int .i64 0),.lit (.int .i64 0),.lit (.int .i64 0)]⟩)]
def tI(t:Nat):TI:=(lk tab t).getD ⟨.bool,1,1,[]⟩
theorem zr:Tryz.prog.follows .mixedOrders=true:=by kernel_rfl
theorem tOk:TOk Tryz.prog (lk tab):=zTr (by kernel_rfl)
instance:TC Tryz.prog (lk tab):=⟨tOk⟩
structure Src where
  b:(List Int)
  i:Int
  h:Int
def zL(v:Src):List CV:=[.sl true 1 (v.b.map qC),.lit (.int .i64 v.i),.lit (.int .i64 v.h)]
def Src.wf(v:Src):Prop:=zAt zP9 v.b∧qx v.i∧qx v.h∧True
theorem Src.enc:Enc Src [.sl 1 [.int .u8],.int .i64,.int .i64] zL Src.wf:=fun cs h=>by
  obtain⟨c0,r0,rfl,k0,h⟩:=zh h
  obtain⟨c1,r1,rfl,k1,h⟩:=zh h
  obtain⟨c2,r2,rfl,k2,h⟩:=zh h
  obtain rfl:=JK h
  obtain⟨x0,rfl,w0⟩:=Enc.sl zQQ k0
  obtain⟨x1,rfl,w1⟩:=qX k1
  obtain⟨x2,rfl,w2⟩:=qX k2
  exact⟨⟨x0,x1,x2⟩,rfl,⟨w0,w1,w2,trivial⟩⟩
theorem zSZ(v:Src):z5 (zL v):=zH (qf (z7 zNj _)) (zH zT (zH zT (zR)))
structure Vec where
  Root:Int
  Co:Int
  Hops:Int
  Bridge:Int
  Port:Int
def zj(v:Vec):List CV:=[.lit (.int .i64 v.Root),.lit (.int .i64 v.Co),.lit (.int .i64 v.Hops),.lit (.int .i64 v.Bridge),.lit (.int .i64 v.Port)]
def Vec.wf(v:Vec):Prop:=qx v.Root∧qx v.Co∧qx v.Hops∧qx v.Bridge∧qx v.Port∧True
theorem Vec.enc:Enc Vec [.int .i64,.int .i64,.int .i64,.int .i64,.int .i64] zj Vec.wf:=fun cs h=>by
  obtain⟨c0,r0,rfl,k0,h⟩:=zh h
  obtain⟨c1,r1,rfl,k1,h⟩:=zh h
  obtain⟨c2,r2,rfl,k2,h⟩:=zh h
  obtain⟨c3,r3,rfl,k3,h⟩:=zh h
  obtain⟨c4,r4,rfl,k4,h⟩:=zh h
  obtain rfl:=JK h
  obtain⟨x0,rfl,w0⟩:=qX k0
  obtain⟨x1,rfl,w1⟩:=qX k1
  obtain⟨x2,rfl,w2⟩:=qX k2
  obtain⟨x3,rfl,w3⟩:=qX k3
  obtain⟨x4,rfl,w4⟩:=qX k4
  exact⟨⟨x0,x1,x2,x3,x4⟩,rfl,⟨w0,w1,w2,w3,w4,trivial⟩⟩
theorem zJN(v:Vec):z5 (zj v):=zH zT (zH zT (zH zT (zH zT (zH zT (zR)))))
structure Pt where
  Up:Bool
  Co:Int
  Has:Bool
  Hd:Vec
def zJ(v:Pt):List CV:=[.lit (.bool v.Up),.lit (.int .i64 v.Co),.lit (.bool v.Has),.lit (.int .i64 v.Hd.Root),.lit (.int .i64 v.Hd.Co),.lit (.int .i64 v.Hd.Hops),.lit (.int .i64 v.Hd.Bridge),.lit (.int .i64 v.Hd.Port)]
def Pt.wf(v:Pt):Prop:=qx v.Co∧qx v.Hd.Root∧qx v.Hd.Co∧qx v.Hd.Hops∧qx v.Hd.Bridge∧qx v.Hd.Port∧True
theorem zTu:Enc Pt [.bool,.int .i64,.bool,.int .i64,.int .i64,.int .i64,.int .i64,.int .i64] zJ Pt.wf:=fun cs h=>by
  obtain⟨c0,r0,rfl,k0,h⟩:=zh h
  obtain⟨c1,r1,rfl,k1,h⟩:=zh h
  obtain⟨c2,r2,rfl,k2,h⟩:=zh h
  obtain⟨c3,r3,rfl,k3,h⟩:=zh h
  obtain⟨c4,r4,rfl,k4,h⟩:=zh h
  obtain⟨c5,r5,rfl,k5,h⟩:=zh h
  obtain⟨c6,r6,rfl,k6,h⟩:=zh h
  obtain⟨c7,r7,rfl,k7,h⟩:=zh h
  obtain rfl:=JK h
  obtain⟨x0,rfl⟩:=zGA k0
  obtain⟨x1,rfl,w1⟩:=qX k1
  obtain⟨x2,rfl⟩:=zGA k2
  obtain⟨x3,rfl,w3⟩:=qX k3
  obtain⟨x4,rfl,w4⟩:=qX k4
  obtain⟨x5,rfl,w5⟩:=qX k5
  obtain⟨x6,rfl,w6⟩:=qX k6
  obtain⟨x7,rfl,w7⟩:=qX k7
  exact⟨⟨x0,x1,x2,⟨x3,x4,x5,x6,x7⟩⟩,rfl,⟨w1,w3,w4,w5,w6,w7,trivial⟩⟩
theorem zO4(v:Pt):z5 (zJ v):=zH zT (zH zT (zH zT (zH zT (zH zT (zH zT (zH zT (zH zT (zR))))))))
structure zM where
  Tag:Int
  Mac:Int
  Port:Int
  Age:Int
  Sc:Bool
def zG(v:zM):List CV:=[.lit (.int .i64 v.Tag),.lit (.int .i64 v.Mac),.lit (.int .i64 v.Port),.lit (.int .i64 v.Age),.lit (.bool v.Sc)]
def zM.wf(v:zM):Prop:=qx v.Tag∧qx v.Mac∧qx v.Port∧qx v.Age∧True
theorem zR4:Enc zM [.int .i64,.int .i64,.int .i64,.int .i64,.bool] zG zM.wf:=fun cs h=>by
  obtain⟨c0,r0,rfl,k0,h⟩:=zh h
  obtain⟨c1,r1,rfl,k1,h⟩:=zh h
  obtain⟨c2,r2,rfl,k2,h⟩:=zh h
  obtain⟨c3,r3,rfl,k3,h⟩:=zh h
  obtain⟨c4,r4,rfl,k4,h⟩:=zh h
  obtain rfl:=JK h
  obtain⟨x0,rfl,w0⟩:=qX k0
  obtain⟨x1,rfl,w1⟩:=qX k1
  obtain⟨x2,rfl,w2⟩:=qX k2
  obtain⟨x3,rfl,w3⟩:=qX k3
  obtain⟨x4,rfl⟩:=zGA k4
  exact⟨⟨x0,x1,x2,x3,x4⟩,rfl,⟨w0,w1,w2,w3,trivial⟩⟩
theorem Jw(v:zM):z5 (zG v):=zH zT (zH zT (zH zT (zH zT (zH zT (zR)))))
structure zX where
  Id:Int
  Members:Int
  Bare:Int
def zF(v:zX):List CV:=[.lit (.int .i64 v.Id),.lit (.int .i64 v.Members),.lit (.int .i64 v.Bare)]
def zX.wf(v:zX):Prop:=qx v.Id∧qx v.Members∧qx v.Bare∧True
theorem zPR:Enc zX [.int .i64,.int .i64,.int .i64] zF zX.wf:=fun cs h=>by
  obtain⟨c0,r0,rfl,k0,h⟩:=zh h
  obtain⟨c1,r1,rfl,k1,h⟩:=zh h
  obtain⟨c2,r2,rfl,k2,h⟩:=zh h
  obtain rfl:=JK h
  obtain⟨x0,rfl,w0⟩:=qX k0
  obtain⟨x1,rfl,w1⟩:=qX k1
  obtain⟨x2,rfl,w2⟩:=qX k2
  exact⟨⟨x0,x1,x2⟩,rfl,⟨w0,w1,w2,trivial⟩⟩
theorem zIR(v:zX):z5 (zF v):=zH zT (zH zT (zH zT (zR)))
structure zm where
  Rows:(List zX)
  Pv:(List Int)
def zc(v:zm):List CV:=[.sl true 3 (v.Rows.map zF),.sl true 1 (v.Pv.map zC)]
def zm.wf(v:zm):Prop:=zAt zX.wf v.Rows∧zAt qx v.Pv∧True
theorem zm.enc:Enc zm [.sl 3 [.int .i64,.int .i64,.int .i64],.sl 1 [.int .i64]] zc zm.wf:=fun cs h=>by
  obtain⟨c0,r0,rfl,k0,h⟩:=zh h
  obtain⟨c1,r1,rfl,k1,h⟩:=zh h
  obtain rfl:=JK h
  obtain⟨x0,rfl,w0⟩:=Enc.sl zPR k0
  obtain⟨x1,rfl,w1⟩:=Enc.sl zSI k1
  exact⟨⟨x0,x1⟩,rfl,⟨w0,w1,trivial⟩⟩
theorem zDs(v:zm):z5 (zc v):=zH (qf (z7 zIR _)) (zH (qf (z7 zx _)) (zR))
structure zA where
  Id:Int
  Name:ByteArray
  Ps:(List Pt)
  F:(List zM)
  V:zm
  Tk:Int
  Pa:Int
  Wo:Int
  Dr:Int
  Ve:Int
def zB(v:zA):List CV:=[.lit (.int .i64 v.Id),.lit (.string v.Name),.sl true 8 (v.Ps.map zJ),.sl true 5 (v.F.map zG),.sl true 3 (v.V.Rows.map zF),.sl true 1 (v.V.Pv.map zC),.lit (.int .i64 v.Tk),.lit (.int .i64 v.Pa),.lit (.int .i64 v.Wo),.lit (.int .i64 v.Dr),.lit (.int .i64 v.Ve)]
def zA.wf(v:zA):Prop:=qx v.Id∧v.Name.size≤maxLen∧zAt Pt.wf v.Ps∧zAt zM.wf v.F∧zAt zX.wf v.V.Rows∧zAt qx v.V.Pv∧qx v.Tk∧qx v.Pa∧qx v.Wo∧qx v.Dr∧qx v.Ve∧True
theorem zP3:Enc zA [.int .i64,.str,.sl 8 [.bool,.int .i64,.bool,.int .i64,.int .i64,.int .i64,.int .i64,.int .i64],.sl 5 [.int .i64,.int .i64,.int .i64,.int .i64,.bool],.sl 3 [.int .i64,.int .i64,.int .i64],.sl 1 [.int .i64],.int .i64,.int .i64,.int .i64,.int .i64,.int .i64] zB zA.wf:=fun cs h=>by
  obtain⟨c0,r0,rfl,k0,h⟩:=zh h
  obtain⟨c1,r1,rfl,k1,h⟩:=zh h
  obtain⟨c2,r2,rfl,k2,h⟩:=zh h
  obtain⟨c3,r3,rfl,k3,h⟩:=zh h
  obtain⟨c4,r4,rfl,k4,h⟩:=zh h
  obtain⟨c5,r5,rfl,k5,h⟩:=zh h
  obtain⟨c6,r6,rfl,k6,h⟩:=zh h
  obtain⟨c7,r7,rfl,k7,h⟩:=zh h
  obtain⟨c8,r8,rfl,k8,h⟩:=zh h
  obtain⟨c9,r9,rfl,k9,h⟩:=zh h
  obtain⟨c10,r10,rfl,k10,h⟩:=zh h
  obtain rfl:=JK h
  obtain⟨x0,rfl,w0⟩:=qX k0
  obtain⟨x1,rfl,w1⟩:=zRe k1
  obtain⟨x2,rfl,w2⟩:=Enc.sl zTu k2
  obtain⟨x3,rfl,w3⟩:=Enc.sl zR4 k3
  obtain⟨x4,rfl,w4⟩:=Enc.sl zPR k4
  obtain⟨x5,rfl,w5⟩:=Enc.sl zSI k5
  obtain⟨x6,rfl,w6⟩:=qX k6
  obtain⟨x7,rfl,w7⟩:=qX k7
  obtain⟨x8,rfl,w8⟩:=qX k8
  obtain⟨x9,rfl,w9⟩:=qX k9
  obtain⟨x10,rfl,w10⟩:=qX k10
  exact⟨⟨x0,x1,x2,x3,⟨x4,x5⟩,x6,x7,x8,x9,x10⟩,rfl,⟨w0,w1,w2,w3,w4,w5,w6,w7,w8,w9,w10,trivial⟩⟩
theorem JW(v:zA):z5 (zB v):=zH zT (zH zT (zH (qf (z7 zO4 _)) (zH (qf (z7 Jw _)) (zH (qf (z7 zIR _)) (zH (qf (z7 zx _)) (zH zT (zH zT (zH zT (zH zT (zH zT (zR)))))))))))
structure Link where
  A:Int
  P:Int
  B:Int
  Q:Int
def zE(v:Link):List CV:=[.lit (.int .i64 v.A),.lit (.int .i64 v.P),.lit (.int .i64 v.B),.lit (.int .i64 v.Q)]
def Link.wf(v:Link):Prop:=qx v.A∧qx v.P∧qx v.B∧qx v.Q∧True
theorem zR8:Enc Link [.int .i64,.int .i64,.int .i64,.int .i64] zE Link.wf:=fun cs h=>by
  obtain⟨c0,r0,rfl,k0,h⟩:=zh h
  obtain⟨c1,r1,rfl,k1,h⟩:=zh h
  obtain⟨c2,r2,rfl,k2,h⟩:=zh h
  obtain⟨c3,r3,rfl,k3,h⟩:=zh h
  obtain rfl:=JK h
  obtain⟨x0,rfl,w0⟩:=qX k0
  obtain⟨x1,rfl,w1⟩:=qX k1
  obtain⟨x2,rfl,w2⟩:=qX k2
  obtain⟨x3,rfl,w3⟩:=qX k3
  exact⟨⟨x0,x1,x2,x3⟩,rfl,⟨w0,w1,w2,w3,trivial⟩⟩
theorem zM4(v:Link):z5 (zE v):=zH zT (zH zT (zH zT (zH zT (zR))))
structure Say where
  Link:Int
  Back:Bool
  V:Vec
def zI(v:Say):List CV:=[.lit (.int .i64 v.Link),.lit (.bool v.Back),.lit (.int .i64 v.V.Root),.lit (.int .i64 v.V.Co),.lit (.int .i64 v.V.Hops),.lit (.int .i64 v.V.Bridge),.lit (.int .i64 v.V.Port)]
def Say.wf(v:Say):Prop:=qx v.Link∧qx v.V.Root∧qx v.V.Co∧qx v.V.Hops∧qx v.V.Bridge∧qx v.V.Port∧True
theorem zS3:Enc Say [.int .i64,.bool,.int .i64,.int .i64,.int .i64,.int .i64,.int .i64] zI Say.wf:=fun cs h=>by
  obtain⟨c0,r0,rfl,k0,h⟩:=zh h
  obtain⟨c1,r1,rfl,k1,h⟩:=zh h
  obtain⟨c2,r2,rfl,k2,h⟩:=zh h
  obtain⟨c3,r3,rfl,k3,h⟩:=zh h
  obtain⟨c4,r4,rfl,k4,h⟩:=zh h
  obtain⟨c5,r5,rfl,k5,h⟩:=zh h
  obtain⟨c6,r6,rfl,k6,h⟩:=zh h
  obtain rfl:=JK h
  obtain⟨x0,rfl,w0⟩:=qX k0
  obtain⟨x1,rfl⟩:=zGA k1
  obtain⟨x2,rfl,w2⟩:=qX k2
  obtain⟨x3,rfl,w3⟩:=qX k3
  obtain⟨x4,rfl,w4⟩:=qX k4
  obtain⟨x5,rfl,w5⟩:=qX k5
  obtain⟨x6,rfl,w6⟩:=qX k6
  exact⟨⟨x0,x1,⟨x2,x3,x4,x5,x6⟩⟩,rfl,⟨w0,w2,w3,w4,w5,w6,trivial⟩⟩
theorem zN8(v:Say):z5 (zI v):=zH zT (zH zT (zH zT (zH zT (zH zT (zH zT (zH zT (zR)))))))
structure Net where
  Bs:(List zA)
  Ls:(List Link)
  Said:(List Say)
def zD(v:Net):List CV:=[.sl true 11 (v.Bs.map zB),.sl true 4 (v.Ls.map zE),.sl true 7 (v.Said.map zI)]
def Net.wf(v:Net):Prop:=zAt zA.wf v.Bs∧zAt Link.wf v.Ls∧zAt Say.wf v.Said∧True
theorem Net.enc:Enc Net [.sl 11 [.int .i64,.str,.sl 8 [.bool,.int .i64,.bool,.int .i64,.int .i64,.int .i64,.int .i64,.int .i64],.sl 5 [.int .i64,.int .i64,.int .i64,.int .i64,.bool],.sl 3 [.int .i64,.int .i64,.int .i64],.sl 1 [.int .i64],.int .i64,.int .i64,.int .i64,.int .i64,.int .i64],.sl 4 [.int .i64,.int .i64,.int .i64,.int .i64],.sl 7 [.int .i64,.bool,.int .i64,.int .i64,.int .i64,.int .i64,.int .i64]] zD Net.wf:=fun cs h=>by
  obtain⟨c0,r0,rfl,k0,h⟩:=zh h
  obtain⟨c1,r1,rfl,k1,h⟩:=zh h
  obtain⟨c2,r2,rfl,k2,h⟩:=zh h
  obtain rfl:=JK h
  obtain⟨x0,rfl,w0⟩:=Enc.sl zP3 k0
  obtain⟨x1,rfl,w1⟩:=Enc.sl zR8 k1
  obtain⟨x2,rfl,w2⟩:=Enc.sl zS3 k2
  exact⟨⟨x0,x1,x2⟩,rfl,⟨w0,w1,w2,trivial⟩⟩
theorem zJL(v:Net):z5 (zD v):=zH (qf (z7 JW _)) (zH (qf (z7 zM4 _)) (zH (qf (z7 zN8 _)) (zR)))
structure Event where
  Ki:Int
  At:Int
def QZ(v:Event):List CV:=[.lit (.int .i64 v.Ki),.lit (.int .i64 v.At)]
def Event.wf(v:Event):Prop:=qx v.Ki∧qx v.At∧True
theorem zTx:Enc Event [.int .i64,.int .i64] QZ Event.wf:=fun cs h=>by
  obtain⟨c0,r0,rfl,k0,h⟩:=zh h
  obtain⟨c1,r1,rfl,k1,h⟩:=zh h
  obtain rfl:=JK h
  obtain⟨x0,rfl,w0⟩:=qX k0
  obtain⟨x1,rfl,w1⟩:=qX k1
  exact⟨⟨x0,x1⟩,rfl,⟨w0,w1,trivial⟩⟩
theorem zRX(v:Event):z5 (QZ v):=zH zT (zH zT (zR))
def zHv(n:Nat)(x0:(List Int)):Option (Bool):=
  (some (decide ((x0.length:Int)>1048576)))
theorem zRg(n:Nat)(x0:(List Int))(r:Bool)(H:zHv n x0=some r):zb Tryz.prog 6 [.val false [.sl false 1 (zQ (x0.map qC))]] [.val false [.lit (.bool r)]] []:=by
 refine cW Tryz.func6 (fun g d=>sl [g 0,g 1] .ret) [.tmp 2] fun cx=>?_
 unfold zHv at H
 exact gA 1 1 0<|rA 1<|kF x0 qC<|uA 2 4 0<|te (fJ [(false,[cB (decide ((x0.length:Int)>1048576))])] H)
def zDl(n:Nat)(x0:(List Int))(y3:Int):Option (Src):=
  (some (⟨x0,0,y3⟩:Src))
def Yx(n:Nat):Nat→(List Int)→Int→Int→Option ((Int)⊕(Src))
  |0,_,_,_=>none
  |mo4+1,x0,y1,y2=>(bif (decide (y1<(x0.length:Int)))then(bif (decide (y1<4000))then((idx x0 y1).bind fun v5=>(Yx n mo4 x0 (wI (y1+1)) (wI (bO (wI ((wI ((wI (y2*137))+(wI v5)))+11))&&&bO 1073741823).toNat)))else(some (Sum.inl y2)))else(some (Sum.inl y2)))
def Jj(n:Nat)(x0:(List Int)):Option (Src):=
  ((Yx n n x0 0 (wI (762762+(x0.length:Int)))).bind fun o=>match o with|.inl y3=>(zDl n x0 y3)|.inr r=>some r)
noncomputable abbrev G45(k:Nat):=Rg Tryz.f45 k
theorem zFA(n:Nat)(x0:(List Int))(r:Src)(H:Jj n x0=some r):zb Tryz.prog 45 [.val false [.sl false 1 (zQ (x0.map qC))]] [.ptr (fR (zL r))] []:=by
 refine zIu tOk Tryz.func45 rfl (c:=(.seq (G45 0) (.seq (G45 1) (.seq (.seq (G45 2) (.block 0 (.loop (.seq (.seq (G45 3) (.cond (.tmp 15) .skip (.exit 0))) (.seq (.block 1 (G45 5)) (G45 4)))))) (.seq (G45 6) .ret))))) kr (Nat.le_of_ble_eq_true kr) 2 31 rfl (fR (zL r)) fun cx=>?_
 show Tr _ _ _ ⟨32,0,[sC 0 (cF 1 x0 qC)],[]⟩ _
 unfold Jj at H
 refine gA 1 1 0<|rA 1<|kF x0 qC<|uA 2 9 0<|tS<|gA 1 25 0 ?_
 obtain⟨o4,eo4,Ho4⟩:=bs H
 clear H
 refine zt (ι:=Int) (fun v=>⟨32,0,[sI 3 v,sC 0 (cF 1 x0 qC)],[]⟩) (fun v=>zDl n x0 v=some r) ?_ ?_
 ·refine tB<|Tr.loop (ι:=Nat×(Int×Int)) (fun v=>⟨32,0,[sI 4 v.2.1,sI 3 v.2.2,sC 0 (cF 1 x0 qC)],[]⟩) (fun v=>Yx n v.1 x0 v.2.1 v.2.2=some o4) (fun v=>v.1) (n,(0,(wI (762762+(x0.length:Int))))) eo4 (za [4,3,0] [] kr) ?_
  rintro⟨_|mo4,y1,y2⟩ H
  ·exact nN H
  have H:Yx n (mo4+1) x0 y1 y2=some o4:=H
  rw[Yx]at H
  refine tS<|rA 2<|kF x0 qC<|lA 2 ?_
  obtain⟨h1,H⟩|⟨h1,H⟩:=bC H
  ·refine qL 4121 0 [12] h1<|uA 3 32793 0<|nB_<|Tr.exit<|aJ ?_
   cases H
   exact jA y2 Ho4 [3,0] []
  refine qL 4121 0 [12] h1<|uA 3 32793 0 ?_
  obtain⟨h2,H⟩|⟨h2,H⟩:=bC H
  ·refine nA h2<|Tr.exit<|aJ ?_
   cases H
   exact jA y2 Ho4 [3,0] []
  exact tA h2<|tK<|tS<|tB<|Tr.at<|lA 4<|bE H fun v5 ev5 H=>iA qC ev5<|uA 6 25 0<|eA 3 25 0<|jB mo4 ((wI (y1+1)),(wI (bO (wI ((wI ((wI (y2*137))+(wI v5)))+11))&&&bO 1073741823).toNat)) H [4,3,0] []
 rintro y3 H
 have H:(zDl n x0 y3)=some r:=H
 unfold zDl at H
 refine gA 5 4 2147483648<|te ?_
 obtain rfl:=si H
 exact And.intro kr kr
def zC9(n:Nat)(x0:(List Int))(x1:Int):Option (Int):=
  (bif (decide ((12:Int)≠0))then(bif (decide ((wI (3+(wI (Int.tdiv (x0.length:Int) 12))))>x1))then(some x1)else(some (wI (3+(wI (Int.tdiv (x0.length:Int) 12))))))else none)
theorem zOx(n:Nat)(x0:(List Int))(x1:Int)(r:Int)(H:zC9 n x0 x1=some r):zb Tryz.prog 68 [.val false [.sl false 1 (zQ (x0.map qC))],.val false [.lit (.int .i64 x1)]] [.val false [.lit (.int .i64 r)]] []:=by
 refine cW Tryz.func68 (fun g d=>sl [g 0,g 1,sl [g 2] (cn 12 (sl [g 3] .ret) .skip),g 4] .ret) [.tmp 4] fun cx=>?_
 unfold zC9 at H
 refine gA 1 3 0<|rA 1<|kF x0 qC<|gE H fun hg1 H=>Ym tOk (op:=.quo) (t:=3) (ty:=3) (ty':=3) (x:=(.tmp 7)) (y:=(.const (.int .i64 12))) (d:=8) (g:=none) (.int .i64 (x0.length:Int)) (.int .i64 12) (.int .i64 (wI (Int.tdiv (x0.length:Int) 12))) _ kr kr kr kr kr (φ:=(IntKind.i64=IntKind.i64∧(12:Int)≠0)) kr (⟨rfl,of_decide_eq_true hg1⟩) rfl<|uA 2 34 0<|tS<|gA 3 4130 0 ?_
 obtain⟨h1,H⟩|⟨h1,H⟩:=bC H
 ·exact nA h1<|tK<|gA 2 16 0<|te (fJ [(false,[cI (wI (3+(wI (Int.tdiv (x0.length:Int) 12))))])] H)
 exact tA h1<|gA 2 16 0<|te (fJ [(false,[cI x1])] H)
def Jh(n:Nat)(x0:Src):Option (Int×Src):=
  (bif (decide ((0:Int)≤33))then(bif (decide ((0:Int)≤47))then(bif (decide (x0.i<(x0.b.length:Int)))then((idx x0.b x0.i).bind fun v3=>(some ((wI (bO (wI ((wI (bO (wI (bO (Int.fdiv (wI ((wI (x0.h*6364136223846793005))+1442695040888963407)) (2^min ((33:Int)).toNat (IntKind.bits .i64))) ^^^ bO (Int.fdiv (wI ((wI (x0.h*6364136223846793005))+1442695040888963407)) (2^min ((47:Int)).toNat (IntKind.bits .i64)))).toNat)&&&bO 255).toNat)+(wI v3)))&&&bO 255).toNat),(⟨x0.b,(wI (x0.i+1)),(wI ((wI (x0.h*6364136223846793005))+1442695040888963407))⟩:Src))))else(some ((wI (bO (wI (bO (Int.fdiv (wI ((wI (x0.h*6364136223846793005))+1442695040888963407)) (2^min ((33:Int)).toNat (IntKind.bits .i64))) ^^^ bO (Int.fdiv (wI ((wI (x0.h*6364136223846793005))+1442695040888963407)) (2^min ((47:Int)).toNat (IntKind.bits .i64)))).toNat)&&&bO 255).toNat),(⟨x0.b,x0.i,(wI ((wI (x0.h*6364136223846793005))+1442695040888963407))⟩:Src))))else none)else none)
def zTF:Tab:=⟨13,[0,1,2,4,8,0,32,64,128,256,528,1024,4095],[0,1,2,4,8,0,32,64,128,256,528,1024,2048],[0,1,3,7,15,0,32,96,224,480,1023,2047,4095]⟩
noncomputable abbrev zS4(k:Nat):=Rg Tryz.f103 k
noncomputable abbrev zTy(k:Nat):=Rd Tryz.f103 k
theorem zH2:qb (rg Tryz.f103 2) zTF=true:=kr
def zTG:Tab:=⟨15,[0,0,2,4,8,0,32,64,128,272,512,1024,2049,4096,16383],[0,0,2,4,8,0,32,64,128,272,512,1024,2049,4096,8193],[0,0,2,6,14,0,32,96,224,510,1022,2046,4095,8191,16383]⟩
theorem zOO:qb (rg Tryz.f103 4) zTG=true:=kr
theorem zFY(n:Nat)(x0:Src)(r:Int×Src)(H:Jh n x0=some r):zb Tryz.prog 103 [.ptr (fR (zL x0))] [.val false [.lit (.int .i64 r.1)]] [(0,(fR (zL r.2)))]:=by
 refine zu tOk Tryz.func103 rfl (c:=(.seq (zS4 0) (.seq (zS4 1) (.seq (zTy 2) (.seq (.seq (zTy 3) (.cond (.tmp 34) (.seq (zTy 4) (zS4 5)) .skip)) (.seq (zS4 6) .ret)))))) kr (Nat.le_of_ble_eq_true kr) 1 (rs:=[.tmp 2]) rfl [] .nil [(false,[.lit (.int .i64 r.1)])] [] [(0,(fR (zL r.2)))] fun cx=>?_
 show Tr _ _ _ ⟨58,1,[sA 0 0 3 0],[(0,(fR (zL x0)))]⟩ _
 unfold Jh at H
 refine gA 1 1 1<|gA 10 1 1<|gE H fun hg1 H=>gE H fun hg2 H=>zd zr 13 kr ⟨58,1,[sI 3 (wI (bO (wI (bO (Int.fdiv (wI ((wI (x0.h*0x5851f42d4c957f2d))+0x14057b7ef767814f)) (2^min ((33:Int)).toNat (IntKind.bits .i64))) ^^^ bO (Int.fdiv (wI ((wI (x0.h*0x5851f42d4c957f2d))+0x14057b7ef767814f)) (2^min ((47:Int)).toNat (IntKind.bits .i64)))).toNat)&&&bO 255).toNat),sA 0 0 3 0],[(0,[cF 1 x0.b qC,cI x0.i,cI (wI ((wI (x0.h*0x5851f42d4c957f2d))+0x14057b7ef767814f))])]⟩ (fun cx=>?_) ?_
 ·refine mA zH2 (zl [0,1,2]++[(3,[4])]++zl [5,6,7]++[(8,[9])]) 5 [⟨[9],3,20,21⟩,⟨[4],3,15,16⟩] fun cx=>mB2 tOk zH2 4 9 kr (And.intro kr ?_) (And.intro kr ?_)
  ·exact Ym tOk (op:=.shr) (t:=3) (ty:=133) (ty':=3) (x:=(.tmp 16)) (y:=(.const (.int .u64 33))) (d:=17) (g:=none) (.int .i64 (wI ((wI (x0.h*0x5851f42d4c957f2d))+0x14057b7ef767814f))) (.int .u64 33) (.int .i64 (Int.fdiv (wI ((wI (x0.h*0x5851f42d4c957f2d))+0x14057b7ef767814f)) (2^min ((33:Int)).toNat (IntKind.bits .i64)))) _ kr kr kr kr kr (φ:=(0:Int)≤33) kr (of_decide_eq_true hg1) rfl<|fA<|mC zH2 9<|Ym tOk (op:=.shr) (t:=3) (ty:=133) (ty':=3) (x:=(.tmp 21)) (y:=(.const (.int .u64 47))) (d:=22) (g:=none) (.int .i64 (wI ((wI (x0.h*0x5851f42d4c957f2d))+0x14057b7ef767814f))) (.int .u64 47) (.int .i64 (Int.fdiv (wI ((wI (x0.h*0x5851f42d4c957f2d))+0x14057b7ef767814f)) (2^min ((47:Int)).toNat (IntKind.bits .i64)))) _ kr kr kr kr kr (φ:=(0:Int)≤47) kr (of_decide_eq_true hg2) rfl<|fA<|mA zH2 (zl [10,11,12]) 0 [⟨[9],3,20,21⟩,⟨[4],3,15,16⟩] fun cx=>mE zH2 [3,0] [0]
  ·exact Ym tOk (op:=.shr) (t:=3) (ty:=133) (ty':=3) (x:=(.tmp 21)) (y:=(.const (.int .u64 47))) (d:=22) (g:=none) (.int .i64 (wI ((wI (x0.h*0x5851f42d4c957f2d))+0x14057b7ef767814f))) (.int .u64 47) (.int .i64 (Int.fdiv (wI ((wI (x0.h*0x5851f42d4c957f2d))+0x14057b7ef767814f)) (2^min ((47:Int)).toNat (IntKind.bits .i64)))) _ kr kr kr kr kr (φ:=(0:Int)≤47) kr (of_decide_eq_true hg2) rfl<|fA<|mC zH2 4<|Ym tOk (op:=.shr) (t:=3) (ty:=133) (ty':=3) (x:=(.tmp 16)) (y:=(.const (.int .u64 33))) (d:=17) (g:=none) (.int .i64 (wI ((wI (x0.h*0x5851f42d4c957f2d))+0x14057b7ef767814f))) (.int .u64 33) (.int .i64 (Int.fdiv (wI ((wI (x0.h*0x5851f42d4c957f2d))+0x14057b7ef767814f)) (2^min ((33:Int)).toNat (IntKind.bits .i64)))) _ kr kr kr kr kr (φ:=(0:Int)≤33) kr (of_decide_eq_true hg1) rfl<|fA<|mA zH2 (zl [10,11,12]) 0 [⟨[9],3,20,21⟩,⟨[4],3,15,16⟩] fun cx=>mE zH2 [3,0] [0]
 refine tS<|zd zr 10 kr ⟨58,1,[sB 34 (decide (x0.i<(x0.b.length:Int))),sI 3 (wI (bO (wI (bO (Int.fdiv (wI ((wI (x0.h*0x5851f42d4c957f2d))+0x14057b7ef767814f)) (2^min ((33:Int)).toNat (IntKind.bits .i64))) ^^^ bO (Int.fdiv (wI ((wI (x0.h*0x5851f42d4c957f2d))+0x14057b7ef767814f)) (2^min ((47:Int)).toNat (IntKind.bits .i64)))).toNat)&&&bO 255).toNat),sA 0 0 3 0],[(0,[cF 1 x0.b qC,cI x0.i,cI (wI ((wI (x0.h*0x5851f42d4c957f2d))+0x14057b7ef767814f))])]⟩ (fun cx=>?_) ?_
 ·refine aA (zl [0,1,2,3,4,5,6,7]) 2 [⟨[],22,31,32⟩,⟨[],3,27,28⟩] fun cx=>aL tOk 8 22 3 5 32 33 none ⟨(.box 0),[(0,0)],0,false,1,(zQ (x0.b.map qC))⟩ (x0.b).length _ kr kr kr kr kr kr kr (zH7 _ _) rfl (fun cx=>?_)
  exact aA [(9,[])] 0 [⟨[],22,31,32⟩,⟨[],3,27,28⟩] fun cx=>eE [34,3,0] [0]
 obtain⟨h1,H⟩|⟨h1,H⟩:=bC H
 ·exact qT [34] h1<|nB_<|tK<|gA 2 5 1<|te<|fY [(false,[cI (wI (bO (wI (bO (Int.fdiv (wI ((wI (x0.h*0x5851f42d4c957f2d))+0x14057b7ef767814f)) (2^min ((33:Int)).toNat (IntKind.bits .i64))) ^^^ bO (Int.fdiv (wI ((wI (x0.h*0x5851f42d4c957f2d))+0x14057b7ef767814f)) (2^min ((47:Int)).toNat (IntKind.bits .i64)))).toNat)&&&bO 255).toNat)])] [(0,[cF 1 x0.b qC,cI x0.i,cI (wI ((wI (x0.h*0x5851f42d4c957f2d))+0x14057b7ef767814f))])] H
 refine qT [34] h1<|tB_<|bE H fun v3 ev3 H=>zd zr 15 kr ⟨58,1,[sI 3 (wI (bO (wI ((wI (bO (wI (bO (Int.fdiv (wI ((wI (x0.h*0x5851f42d4c957f2d))+0x14057b7ef767814f)) (2^min ((33:Int)).toNat (IntKind.bits .i64))) ^^^ bO (Int.fdiv (wI ((wI (x0.h*0x5851f42d4c957f2d))+0x14057b7ef767814f)) (2^min ((47:Int)).toNat (IntKind.bits .i64)))).toNat)&&&bO 255).toNat)+(wI v3)))&&&bO 255).toNat),sA 0 0 3 0],[(0,[cF 1 x0.b qC,cI x0.i,cI (wI ((wI (x0.h*0x5851f42d4c957f2d))+0x14057b7ef767814f))])]⟩ (fun cx=>?_) ?_
 ·exact mA zOO (zl [0,1,2,3,4,5,6,7,8]) 6 [⟨[],3,42,43⟩,⟨[],22,38,39⟩] fun cx=>iN zOO 9 qC ev3 fun cx=>mA zOO (zl [10,11,12,13,14]) 0 [⟨[],3,42,43⟩,⟨[],22,38,39⟩] fun cx=>mE zOO [3,0] [0]
 exact eA 9 9 1<|gA 2 5 1<|te<|fY [(false,[cI (wI (bO (wI ((wI (bO (wI (bO (Int.fdiv (wI ((wI (x0.h*0x5851f42d4c957f2d))+0x14057b7ef767814f)) (2^min ((33:Int)).toNat (IntKind.bits .i64))) ^^^ bO (Int.fdiv (wI ((wI (x0.h*0x5851f42d4c957f2d))+0x14057b7ef767814f)) (2^min ((47:Int)).toNat (IntKind.bits .i64)))).toNat)&&&bO 255).toNat)+(wI v3)))&&&bO 255).toNat)])] [(0,[cF 1 x0.b qC,cI (wI (x0.i+1)),cI (wI ((wI (x0.h*0x5851f42d4c957f2d))+0x14057b7ef767814f))])] H
def zP(n:Nat)(x0:Src)(x1:Int):Option (Int×Src):=
  (bif (decide (x1≤0))then(some (0,x0))else(bif (decide (x1≤256))then((Jh n x0).bind fun r5=>(bif (decide ((x1:Int)≠0))then(some ((Int.tmod r5.1 x1),r5.2))else none))else((Jh n x0).bind fun r1=>((Jh n r1.2).bind fun r2=>((Jh n r2.2).bind fun r3=>(bif (decide ((x1:Int)≠0))then(some ((Int.tmod (wI ((wI ((wI (r1.1*65536))+(wI (r2.1*256))))+r3.1)) x1),r3.2))else none))))))
noncomputable abbrev G70(k:Nat):=Rg Tryz.f70 k
theorem zW(n:Nat)(x0:Src)(x1:Int)(r:Int×Src)(H:zP n x0 x1=some r):zb Tryz.prog 70 [.ptr (fR (zL x0)),.val false [.lit (.int .i64 x1)]] [.val false [.lit (.int .i64 r.1)]] [(0,(fR (zL r.2)))]:=by
 refine zu tOk Tryz.func70 rfl (c:=(.seq (G70 0) (.seq (.seq (G70 1) (.cond (.tmp 9) (.seq (G70 2) .ret) .skip)) (.seq (.seq (G70 3) (.cond (.tmp 11) (.seq (G70 4) .ret) .skip)) (.seq (G70 5) (.seq (G70 6) (.seq (G70 7) (.seq (G70 8) .ret)))))))) kr (Nat.le_of_ble_eq_true kr) 1 (rs:=[.tmp 4]) rfl [] .nil [(false,[.lit (.int .i64 r.1)])] [] [(0,(fR (zL r.2)))] fun cx=>?_
 show Tr _ _ _ ⟨31,1,[sA 0 0 3 0,sI 1 x1],[(0,(fR (zL x0)))]⟩ _
 unfold zP at H
 refine gA 1 3 1<|tS<|gA 2 515 1 ?_
 obtain⟨h1,H⟩|⟨h1,H⟩:=bC H
 ·refine nA h1<|tK<|tS<|gA 2 2051 1 ?_
  obtain⟨h2,H⟩|⟨h2,H⟩:=bC H
  ·exact nA h2<|tK<|rA 1<|bE H fun r1 er1 H=>vL [.lend] (zFY n x0 r1 er1)<|uA 1 35 1<|rA 1<|bE H fun r2 er2 H=>vL [.lend] (zFY n r1.2 r2 er2)<|uA 1 99 1<|rA 1<|bE H fun r3 er3 H=>vL [.lend] (zFY n r2.2 r3 er3)<|uA 1 227 1<|rA 8<|gE H fun hg4 H=>Ym tOk (op:=.rem) (t:=3) (ty:=3) (ty':=3) (x:=(.tmp 28)) (y:=(.tmp 29)) (d:=30) (g:=none) (.int .i64 (wI ((wI ((wI (r1.1*65536))+(wI (r2.1*256))))+r3.1))) (.int .i64 x1) (.int .i64 (Int.tmod (wI ((wI ((wI (r1.1*65536))+(wI (r2.1*256))))+r3.1)) x1)) _ kr kr kr kr kr (φ:=(IntKind.i64=IntKind.i64∧(x1:Int)≠0)) kr (⟨rfl,of_decide_eq_true hg4⟩) rfl<|uA 1 17 1<|te<|fY [(false,[cI (Int.tmod (wI ((wI ((wI (r1.1*65536))+(wI (r2.1*256))))+r3.1)) x1)])] [(0,(fR (zL r3.2)))] H
  exact tA h2<|rA 1<|bE H fun r5 er5 H=>vL [.lend] (zFY n x0 r5 er5)<|lA 1<|gE H fun hg6 H=>Ym tOk (op:=.rem) (t:=3) (ty:=3) (ty':=3) (x:=(.tmp 13)) (y:=(.tmp 14)) (d:=15) (g:=none) (.int .i64 r5.1) (.int .i64 x1) (.int .i64 (Int.tmod r5.1 x1)) _ kr kr kr kr kr (φ:=(IntKind.i64=IntKind.i64∧(x1:Int)≠0)) kr (⟨rfl,of_decide_eq_true hg6⟩) rfl<|uA 1 17 1<|te<|fY [(false,[cI (Int.tmod r5.1 x1)])] [(0,(fR (zL r5.2)))] H
 exact tA h1<|gA 1 17 1<|te<|fY [(false,[cI 0])] [(0,(fR (zL x0)))] H
def zCu(n:Nat)(r1:Int×Src)(y4:(List Int)):Option ((List Int)×Src):=
  (some (y4,r1.2))
def YY(n:Nat):Nat→Int×Src→Int→Int→(List Int)→Option (((List Int))⊕((List Int)×Src))
  |0,_,_,_,_=>none
  |mo5+1,r1,x1,y2,y3=>(bif (decide (y2<x1))then(bif (decide ((7:Int)≠0))then(bif (decide (y3.length+ [(wI (1+(Int.tmod (wI (r1.1+(wI (y2*3)))) 7)))].length≤268435456))then(YY n mo5 r1 x1 (wI (y2+1)) (y3++[(wI (1+(Int.tmod (wI (r1.1+(wI (y2*3)))) 7)))]))else none)else none)else(some (Sum.inl y3)))
def zC8(n:Nat)(x0:Src)(x1:Int):Option ((List Int)×Src):=
  ((zP n x0 7).bind fun r1=>((YY n n r1 x1 0 ([]:List Int)).bind fun o=>match o with|.inl y4=>(zCu n r1 y4)|.inr r=>some r))
noncomputable abbrev zQL(k:Nat):=Rg Tryz.f128 k
theorem zOw(n:Nat)(x0:Src)(x1:Int)(r:(List Int)×Src)(H:zC8 n x0 x1=some r):zb Tryz.prog 128 [.ptr (fR (zL x0)),.val false [.lit (.int .i64 x1)]] [.val false [.sl true 1 (r.1.map zC)]] [(0,(fR (zL r.2)))]:=by
 refine zu tOk Tryz.func128 rfl (c:=(.seq (zQL 0) (.seq (zQL 1) (.seq (zQL 2) (.seq (.seq (zQL 3) (.block 0 (.loop (.seq (.seq (zQL 4) (.cond (.tmp 13) .skip (.exit 0))) (.seq (.block 1 (zQL 6)) (zQL 5)))))) (.seq (zQL 7) .ret)))))) kr (Nat.le_of_ble_eq_true kr) 1 (rs:=[.tmp 4]) rfl [] .nil [(false,[.sl true 1 (r.1.map zC)])] [] [(0,(fR (zL r.2)))] fun cx=>?_
 show Tr _ _ _ ⟨26,1,[sA 0 0 3 0,sI 1 x1],[(0,(fR (zL x0)))]⟩ _
 unfold zC8 at H
 refine gA 1 3 1<|rA 1<|zY (T:=lk tab) (ty:=30) (x:=(.tmp 8)) (d:=5) (g:=none) false [cL 1 ([]:List Int) zC] kr kr kr kr kr<|dA 35 1<|rA 1<|bE H fun r1 er1 H=>vL [.lend,.rd] (zW n x0 7 r1 er1)<|uA 1 99 1<|tS<|gA 1 227 1 ?_
 obtain⟨o5,eo5,Ho5⟩:=bs H
 clear H
 refine zt (ι:=(List Int)) (fun v=>⟨26,1,[sC 5 (cL 1 v zC),sA 0 0 3 0],[(0,(fR (zL r1.2)))]⟩) (fun v=>zCu n r1 v=some r) ?_ ?_
 ·refine tB<|Tr.loop (ι:=Nat×(Int×(List Int))) (fun v=>⟨26,1,[sI 7 v.2.1,sI 6 r1.1,sC 5 (cL 1 v.2.2 zC),sA 0 0 3 0,sI 1 x1],[(0,(fR (zL r1.2)))]⟩) (fun v=>YY n v.1 r1 x1 v.2.1 v.2.2=some o5) (fun v=>v.1) (n,(0,([]:List Int))) eo5 (za [7,6,5,0,1] [0] kr) ?_
  rintro⟨_|mo5,y2,y3⟩ H
  ·exact nN H
  have H:YY n (mo5+1) r1 x1 y2 y3=some o5:=H
  rw[YY]at H
  refine tS<|gA 3 8419 1 ?_
  obtain⟨h1,H⟩|⟨h1,H⟩:=bC H
  ·refine nA h1<|Tr.exit<|aJ ?_
   cases H
   exact jA y3 Ho5 [5,0] [0]
  exact tA h1<|tK<|tS<|tB<|Tr.at<|lA 5<|gE H fun hg6 H=>Ym tOk (op:=.rem) (t:=3) (ty:=3) (ty':=3) (x:=(.tmp 20)) (y:=(.const (.int .i64 7))) (d:=21) (g:=none) (.int .i64 (wI (r1.1+(wI (y2*3))))) (.int .i64 7) (.int .i64 (Int.tmod (wI (r1.1+(wI (y2*3)))) 7)) _ kr kr kr kr kr (φ:=(IntKind.i64=IntKind.i64∧(7:Int)≠0)) kr (⟨rfl,of_decide_eq_true hg6⟩) rfl<|lA 2<|gE H fun hg7 H=>qO tOk (t:=30) (ty:=30) (e:=3) (x:=(.tmp 16)) (y:=(.tmp 23)) (d:=24) (g:=none) (tI 3) zC y3 [(wI (1+(Int.tmod (wI (r1.1+(wI (y2*3)))) 7)))] kr kr kr kr kr kr kr kr kr kr hg7<|zY (T:=lk tab) (ty:=30) (x:=(.tmp 24)) (d:=5) (g:=none) false [cL 1 (y3++[(wI (1+(Int.tmod (wI (r1.1+(wI (y2*3)))) 7)))]) zC] kr kr kr kr kr<|dA 227 1<|eA 3 227 1<|jB mo5 ((wI (y2+1)),(y3++[(wI (1+(Int.tmod (wI (r1.1+(wI (y2*3)))) 7)))])) H [7,6,5,0,1] [0]
 rintro y4 H
 have H:(zCu n r1 y4)=some r:=H
 unfold zCu at H
 exact gA 2 49 1<|te<|fY [(false,[cL 1 y4 zC])] [(0,(fR (zL r1.2)))] H
def Z6(n:Nat)(x0:Src)(x1:Int):Option (Bool×Src):=
  ((zP n x0 x1).bind fun r1=>(some ((r1.1==0),r1.2)))
noncomputable abbrev G89(k:Nat):=Rg Tryz.f89 k
theorem zBU(n:Nat)(x0:Src)(x1:Int)(r:Bool×Src)(H:Z6 n x0 x1=some r):zb Tryz.prog 89 [.ptr (fR (zL x0)),.val false [.lit (.int .i64 x1)]] [.val false [.lit (.bool r.1)]] [(0,(fR (zL r.2)))]:=by
 refine zu tOk Tryz.func89 rfl (c:=(.seq (G89 0) (.seq (G89 1) .ret))) kr (Nat.le_of_ble_eq_true kr) 1 (rs:=[.tmp 4]) rfl [] .nil [(false,[.lit (.bool r.1)])] [] [(0,(fR (zL r.2)))] fun cx=>?_
 show Tr _ _ _ ⟨9,1,[sA 0 0 3 0,sI 1 x1],[(0,(fR (zL x0)))]⟩ _
 unfold Z6 at H
 exact gA 1 3 1<|rA 2<|bE H fun r1 er1 H=>vL [.lend,.rd] (zW n x0 x1 r1 er1)<|uA 2 17 1<|te<|fY [(false,[cB (r1.1==0)])] [(0,(fR (zL r1.2)))] H
def zCD(n:Nat)(y3:Int):Option (Int):=
  (some y3)
def Ye(n:Nat)(k:(Int×Int→Option ((Int)⊕(Int))))(v5:Link)(x1:Int)(x2:Int)(y1:Int)(y6:Int):Option ((Int)⊕(Int)):=
  (bif (v5.B==x1)then(bif (v5.Q==x2)then(k ((wI (y1+1)),(wI (y6+1))))else(k ((wI (y1+1)),y6)))else(k ((wI (y1+1)),y6)))
def ZL(n:Nat):Nat→Net→Int→Int→Int→Int→Option ((Int)⊕(Int))
  |0,_,_,_,_,_=>none
  |mo4+1,x0,x1,x2,y1,y2=>(bif (decide (y1<(x0.Ls.length:Int)))then((idx x0.Ls y1).bind fun v5=>(bif (v5.A==x1)then(bif (v5.P==x2)then(Ye n (fun v=>ZL n mo4 x0 x1 x2 v.1 v.2) v5 x1 x2 y1 (wI (y2+1)))else(Ye n (fun v=>ZL n mo4 x0 x1 x2 v.1 v.2) v5 x1 x2 y1 y2))else(Ye n (fun v=>ZL n mo4 x0 x1 x2 v.1 v.2) v5 x1 x2 y1 y2)))else(some (Sum.inl y2)))
def Qo(n:Nat)(x0:Net)(x1:Int)(x2:Int):Option (Int):=
  ((ZL n n x0 x1 x2 0 0).bind fun o=>match o with|.inl y3=>(zCD n y3)|.inr r=>some r)
theorem zBk(n:Nat)(x0:Net)(x1:Int)(x2:Int)(r:Int)(H:Qo n x0 x1 x2=some r):zb Tryz.prog 148 [.val true (fR (zD x0)),.val false [.lit (.int .i64 x1)],.val false [.lit (.int .i64 x2)]] [.val false [.lit (.int .i64 r)]] []:=by
 refine cW Tryz.func148 (fun g d=>sl [g 0,g 1,sl [g 2] (.block 0 (.loop (sl [sl [g 3] (cn 14 .skip (.exit 0)),.block 1 (sl [g 5,sl [g 6] (cn 31 (g 7) .skip),g 8] (cn 43 (g 9) .skip))] (g 4)))),g 10] .ret) [.tmp 6] fun cx=>?_
 unfold Qo at H
 refine gA 2 14 8<|gA 1 142 8<|tS<|gA 1 398 8 ?_
 obtain⟨o4,eo4,Ho4⟩:=bs H
 clear H
 refine zt (ι:=Int) (fun v=>⟨47,0,[sI 7 v],[]⟩) (fun v=>zCD n v=some r) ?_ ?_
 ·refine tB<|Tr.loop (ι:=Nat×(Int×Int)) (fun v=>⟨47,0,[sI 8 v.2.1,sI 7 v.2.2,sA 3 3 3 0,sI 1 x1,sI 2 x2],[(3,(fR (zD x0)))]⟩) (fun v=>ZL n v.1 x0 x1 x2 v.2.1 v.2.2=some o4) (fun v=>v.1) (n,(0,0)) eo4 (za [8,7,3,1,2] [3] kr) ?_
  rintro⟨_|mo4,y1,y2⟩ H
  ·exact nN H
  have H:ZL n (mo4+1) x0 x1 x2 y1 y2=some o4:=H
  rw[ZL]at H
  refine tS<|rA 3<|kF x0.Ls zE<|uA 1 16782 8 ?_
  obtain⟨h1,H⟩|⟨h1,H⟩:=bC H
  ·refine nA h1<|Tr.exit<|aJ ?_
   cases H
   exact jA y2 Ho4 [7] []
  refine tA h1<|tK<|tS<|tB<|rA 3<|bE H fun v5 ev5 H=>iA zE ev5<|uA 3 910 520<|tS<|zt (ι:=Int) (fun v=>⟨47,0,[sA 9 9 4 0,sI 8 y1,sI 7 v,sA 3 3 3 0,sI 1 x1,sI 2 x2],[(9,(zE v5)),(3,(fR (zD x0)))]⟩) (fun v=>Ye n (fun v=>ZL n mo4 x0 x1 x2 v.1 v.2) v5 x1 x2 y1 v=some o4) ?_ ?_
  ·refine rA 5 ?_
   obtain⟨h4,H⟩|⟨h4,H⟩:=bC H
   ·exact qL 67109774 520 [26] h4<|uA 5 2147484558 520<|nB_<|tK<|jA y2 H [9,8,7,3,1,2] [9,3]
   refine qL 67109774 520 [26] h4<|uA 5 2147484558 520 ?_
   obtain⟨h5,H⟩|⟨h5,H⟩:=bC H
   ·exact nA h5<|tK<|jA y2 H [9,8,7,3,1,2] [9,3]
   exact tA h5<|eA 3 910 520<|jA (wI (y2+1)) H [9,8,7,3,1,2] [9,3]
  rintro y6 H
  have H:(Ye n (fun v=>ZL n mo4 x0 x1 x2 v.1 v.2) v5 x1 x2 y1 y6)=some o4:=H
  unfold Ye at H
  refine rA 5 ?_
  obtain⟨h2,H⟩|⟨h2,H⟩:=bC H
  ·exact qL 274877907854 520 [38] h2<|uA 5 8796093022606 8<|nB_<|tK<|eA 3 398 8<|jB mo4 ((wI (y1+1)),y6) H [8,7,3,1,2] [3]
  refine qL 274877907854 520 [38] h2<|uA 5 8796093022606 8 ?_
  obtain⟨h3,H⟩|⟨h3,H⟩:=bC H
  ·exact nA h3<|tK<|eA 3 398 8<|jB mo4 ((wI (y1+1)),y6) H [8,7,3,1,2] [3]
  exact tA h3<|eA 3 398 8<|eA 3 398 8<|jB mo4 ((wI (y1+1)),(wI (y6+1))) H [8,7,3,1,2] [3]
 rintro y3 H
 have H:(zCD n y3)=some r:=H
 unfold zCD at H
 exact gA 2 64 0<|te (fJ [(false,[cI y3])] H)
def zBe(n:Nat)(y6:(List Int))(y7:Int)(y8:Int)(y9:(List Link)):Option ((List Link)×Src):=
  (some (y9,(⟨y6,y7,y8⟩:Src)))
def QY(n:Nat)(k:(Int×(List Int)×Int×Int×(List Link)→Option (((List Int)×Int×Int×(List Link))⊕((List Link)×Src))))(r21:Int×Src)(y1:Int)(y15:Int)(y16:Int)(y23:Int)(y25:Int)(y5:(List Link))(y26:Bool):Option (((List Int)×Int×Int×(List Link))⊕((List Link)×Src)):=
  (bif y26 then(bif (decide (y5.length+ [(⟨y16,y23,y15,y25⟩:Link)].length≤268435456))then(k ((wI (y1+1)),r21.2.b,r21.2.i,r21.2.h,(y5++[(⟨y16,y23,y15,y25⟩:Link)])))else none)else(k ((wI (y1+1)),r21.2.b,r21.2.i,r21.2.h,y5)))
def J6(n:Nat)(k:(Int×(List Int)×Int×Int×(List Link)→Option (((List Int)×Int×Int×(List Link))⊕((List Link)×Src))))(r21:Int×Src)(y1:Int)(y15:Int)(y16:Int)(y23:Int)(y5:(List Link))(y25:Int):Option (((List Int)×Int×Int×(List Link))⊕((List Link)×Src)):=
  (bif (y16 != y15)then((Qo n (⟨([]:List zA),y5,([]:List Say)⟩:Net) y16 y23).bind fun r28=>(bif (r28==0)then((Qo n (⟨([]:List zA),y5,([]:List Say)⟩:Net) y15 y25).bind fun r29=>(bif (r29==0)then(QY n k r21 y1 y15 y16 y23 y25 y5 (decide ((y5.length:Int)<9)))else(QY n k r21 y1 y15 y16 y23 y25 y5 false)))else(QY n k r21 y1 y15 y16 y23 y25 y5 false)))else(QY n k r21 y1 y15 y16 y23 y25 y5 false))
def YF(n:Nat):Nat→Int→Int→(List Link)→Int→Option ((Int)⊕((List Link)×Src))
  |0,_,_,_,_=>none
  |mo30+1,x2,y15,y5,y24=>((Qo n (⟨([]:List zA),y5,([]:List Say)⟩:Net) y15 y24).bind fun r31=>(bif (decide (r31>0))then(bif (decide ((wI (y24+1))<x2))then(YF n mo30 x2 y15 y5 (wI (y24+1)))else(some (Sum.inl y24)))else(some (Sum.inl y24))))
def J5(n:Nat)(k:(Int×(List Int)×Int×Int×(List Link)→Option (((List Int)×Int×Int×(List Link))⊕((List Link)×Src))))(r21:Int×Src)(x2:Int)(y1:Int)(y15:Int)(y16:Int)(y5:(List Link))(y23:Int):Option (((List Int)×Int×Int×(List Link))⊕((List Link)×Src)):=
  ((YF n n x2 y15 y5 r21.1).bind fun o=>match o with|.inl y25=>(J6 n k r21 y1 y15 y16 y23 y5 y25)|.inr r=>some (Sum.inr r))
def YG(n:Nat):Nat→Int→Int→(List Link)→Int→Option ((Int)⊕((List Link)×Src))
  |0,_,_,_,_=>none
  |mo32+1,x2,y16,y5,y22=>((Qo n (⟨([]:List zA),y5,([]:List Say)⟩:Net) y16 y22).bind fun r33=>(bif (decide (r33>0))then(bif (decide ((wI (y22+1))<x2))then(YG n mo32 x2 y16 y5 (wI (y22+1)))else(some (Sum.inl y22)))else(some (Sum.inl y22))))
def Zv(n:Nat)(k:(Int×(List Int)×Int×Int×(List Link)→Option (((List Int)×Int×Int×(List Link))⊕((List Link)×Src))))(x2:Int)(y1:Int)(y5:(List Link))(y15:Int)(y16:Int)(y17:(List Int))(y18:Int)(y19:Int):Option (((List Int)×Int×Int×(List Link))⊕((List Link)×Src)):=
  ((zP n (⟨y17,y18,y19⟩:Src) x2).bind fun r20=>((zP n r20.2 x2).bind fun r21=>((YG n n x2 y16 y5 r20.1).bind fun o=>match o with|.inl y23=>(J5 n k r21 x2 y1 y15 y16 y5 y23)|.inr r=>some (Sum.inr r))))
def zy(n:Nat):Nat→Int→Int→Int→(List Int)→Int→Int→(List Link)→Option (((List Int)×Int×Int×(List Link))⊕((List Link)×Src))
  |0,_,_,_,_,_,_,_=>none
  |mo10+1,x1,x2,y1,y2,y3,y4,y5=>((zP n (⟨y2,y3,y4⟩:Src) 4).bind fun r11=>(bif (decide (y1<(wI (x1+r11.1))))then((zP n r11.2 x1).bind fun r12=>((zP n r12.2 2).bind fun r13=>(bif (decide ((x1:Int)≠0))then(bif (decide (y1<(wI (x1-1))))then((Z6 n r13.2 5).bind fun r34=>(bif (!r34.1)then(Zv n (fun v=>zy n mo10 x1 x2 v.1 v.2.1 v.2.2.1 v.2.2.2.1 v.2.2.2.2) x2 y1 y5 (wI (y1+1)) y1 r34.2.b r34.2.i r34.2.h)else(Zv n (fun v=>zy n mo10 x1 x2 v.1 v.2.1 v.2.2.1 v.2.2.2.1 v.2.2.2.2) x2 y1 y5 (Int.tmod (wI ((wI (r12.1+1))+r13.1)) x1) r12.1 r34.2.b r34.2.i r34.2.h)))else(Zv n (fun v=>zy n mo10 x1 x2 v.1 v.2.1 v.2.2.1 v.2.2.2.1 v.2.2.2.2) x2 y1 y5 (Int.tmod (wI ((wI (r12.1+1))+r13.1)) x1) r12.1 r13.2.b r13.2.i r13.2.h))else none)))else(some (Sum.inl (r11.2.b,r11.2.i,r11.2.h,y5)))))
def zBN(n:Nat)(x0:Src)(x1:Int)(x2:Int):Option ((List Link)×Src):=
  ((zy n n x1 x2 0 x0.b x0.i x0.h ([]:List Link)).bind fun o=>match o with|.inl (y6,y7,y8,y9)=>(zBe n y6 y7 y8 y9)|.inr r=>some r)
noncomputable abbrev zIS(k:Nat):=Rg Tryz.f129 k
theorem zM0(n:Nat)(x0:Src)(x1:Int)(x2:Int)(r:(List Link)×Src)(H:zBN n x0 x1 x2=some r):zb Tryz.prog 129 [.ptr (fR (zL x0)),.val false [.lit (.int .i64 x1)],.val false [.lit (.int .i64 x2)]] [.val false [.sl true 4 (r.1.map zE)]] [(0,(fR (zL r.2)))]:=by
 refine zu tOk Tryz.func129 rfl (c:=(.seq (zIS 0) (.seq (zIS 1) (.seq (.seq (zIS 2) (.block 0 (.loop (.seq (.seq (zIS 3) (.cond (.tmp 19) .skip (.exit 0))) (.seq (.block 1 (.seq (zIS 5) (.seq (zIS 6) (.seq (.seq (zIS 7) (.cond (.tmp 40) (.seq (zIS 8) (zIS 9)) .skip)) (.seq (zIS 10) (.seq (zIS 11) (.seq (.block 2 (.loop (.seq (.seq (zIS 12) (.cond (.tmp 60) .skip (.exit 2))) (.block 3 (zIS 13))))) (.seq (.block 4 (.loop (.seq (.seq (zIS 14) (.cond (.tmp 73) .skip (.exit 4))) (.block 5 (zIS 15))))) (.seq (zIS 16) (.cond (.tmp 98) (zIS 17) .skip)))))))))) (zIS 4)))))) (.seq (zIS 18) .ret))))) kr (Nat.le_of_ble_eq_true kr) 1 (rs:=[.tmp 6]) rfl [] .nil [(false,[.sl true 4 (r.1.map zE)])] [] [(0,(fR (zL r.2)))] fun cx=>?_
 show Tr _ _ _ ⟨111,1,[sA 0 0 3 0,sI 1 x1,sI 2 x2],[(0,(fR (zL x0)))]⟩ _
 unfold zBN at H
 refine gA 1 7 1<|gA 3 135 129<|tS<|gA 1 391 129 ?_
 obtain⟨o10,eo10,Ho10⟩:=bs H
 clear H
 refine zt (ι:=(List Int)×Int×Int×(List Link)) (fun v=>⟨111,1,[sA 7 7 3 0,sA 0 0 3 0],[(0,[cF 1 v.1 qC,cI v.2.1,cI v.2.2.1]),(7,[cL 11 ([]:List zA) zB,cL 4 v.2.2.2 zE,cL 7 ([]:List Say) zI])]⟩) (fun v=>zBe n v.1 v.2.1 v.2.2.1 v.2.2.2=some r) ?_ ?_
 ·refine tB<|Tr.loop (ι:=Nat×(Int×(List Int)×Int×Int×(List Link))) (fun v=>⟨111,1,[sI 8 v.2.1,sA 7 7 3 0,sA 0 0 3 0,sI 1 x1,sI 2 x2],[(7,[cL 11 ([]:List zA) zB,cL 4 v.2.2.2.2.2 zE,cL 7 ([]:List Say) zI]),(0,[cF 1 v.2.2.1 qC,cI v.2.2.2.1,cI v.2.2.2.2.1])]⟩) (fun v=>zy n v.1 x1 x2 v.2.1 v.2.2.1 v.2.2.2.1 v.2.2.2.2.1 v.2.2.2.2.2=some o10) (fun v=>v.1) (n,(0,x0.b,x0.i,x0.h,([]:List Link))) eo10 (za [8,7,0,1,2] [7,0] kr) ?_
  rintro⟨_|mo10,y1,y2,y3,y4,y5⟩ H
  ·exact nN H
  have H:zy n (mo10+1) x1 x2 y1 y2 y3 y4 y5=some o10:=H
  rw[zy]at H
  refine tS<|rA 3<|bE H fun r11 er11 H=>vL [.lend,.rd] (zW n (⟨y2,y3,y4⟩:Src) 4 r11 er11)<|uA 2 524679 129 ?_
  obtain⟨h1,H⟩|⟨h1,H⟩:=bC H
  ·refine nA h1<|Tr.exit<|aJ ?_
   cases H
   exact jA (r11.2.b,r11.2.i,r11.2.h,y5) Ho10 [7,0] [0,7]
  refine tA h1<|tK<|tS<|tB<|rA 2<|bE H fun r12 er12 H=>vL [.lend,.rd] (zW n r11.2 x1 r12 er12)<|uA 1 903 129<|rA 3<|bE H fun r13 er13 H=>vL [.lend,.rd] (zW n r12.2 2 r13 er13)<|lA 2<|gE H fun hg14 H=>Ym tOk (op:=.rem) (t:=3) (ty:=3) (ty':=3) (x:=(.tmp 29)) (y:=(.tmp 30)) (d:=31) (g:=none) (.int .i64 (wI ((wI (r12.1+1))+r13.1))) (.int .i64 x1) (.int .i64 (Int.tmod (wI ((wI (r12.1+1))+r13.1)) x1)) _ kr kr kr kr kr (φ:=(IntKind.i64=IntKind.i64∧(x1:Int)≠0)) kr (⟨rfl,of_decide_eq_true hg14⟩) rfl<|uA 1 1927 129<|tS<|zt (ι:=Int×Int×(List Int)×Int×Int) (fun v=>⟨111,1,[sI 10 v.1,sI 9 v.2.1,sI 8 y1,sA 7 7 3 0,sA 0 0 3 0,sI 1 x1,sI 2 x2],[(0,[cF 1 v.2.2.1 qC,cI v.2.2.2.1,cI v.2.2.2.2]),(7,[cL 11 ([]:List zA) zB,cL 4 y5 zE,cL 7 ([]:List Say) zI])]⟩) (fun v=>Zv n (fun v=>zy n mo10 x1 x2 v.1 v.2.1 v.2.2.1 v.2.2.2.1 v.2.2.2.2) x2 y1 y5 v.1 v.2.1 v.2.2.1 v.2.2.2.1 v.2.2.2.2=some o10) ?_ ?_
  ·refine rA 5 ?_
   obtain⟨h10,H⟩|⟨h10,H⟩:=bC H
   ·exact qL 68719478663 129 [36] h10<|uA 4 1099511629703 129<|nB_<|tK<|jA ((Int.tmod (wI ((wI (r12.1+1))+r13.1)) x1),r12.1,r13.2.b,r13.2.i,r13.2.h) H [10,9,8,7,0,1,2] [0,7]
   refine qL 68719478663 129 [36] h10<|lA 1<|bE H fun r34 er34 H=>vL [.lend,.rd] (zBU n r13.2 5 r34 er34)<|uA 2 1099511629703 129 ?_
   obtain⟨h11,H⟩|⟨h11,H⟩:=bC H
   ·exact nA h11<|tK<|jA ((Int.tmod (wI ((wI (r12.1+1))+r13.1)) x1),r12.1,r34.2.b,r34.2.i,r34.2.h) H [10,9,8,7,0,1,2] [0,7]
   exact tA h11<|gA 2 903 129<|eA 3 1927 129<|jA ((wI (y1+1)),y1,r34.2.b,r34.2.i,r34.2.h) H [10,9,8,7,0,1,2] [0,7]
  rintro⟨y15,y16,y17,y18,y19⟩ H
  have H:(Zv n (fun v=>zy n mo10 x1 x2 v.1 v.2.1 v.2.2.1 v.2.2.2.1 v.2.2.2.2) x2 y1 y5 y15 y16 y17 y18 y19)=some o10:=H
  unfold Zv at H
  refine rA 2<|bE H fun r20 er20 H=>vL [.lend,.rd] (zW n (⟨y17,y18,y19⟩:Src) x2 r20 er20)<|uA 1 3975 129<|rA 2<|bE H fun r21 er21 H=>vL [.lend,.rd] (zW n r20.2 x2 r21 er21)<|uA 1 8071 129<|tS ?_
  obtain⟨o32,eo32,Ho32⟩:=bs H
  clear H
  refine zt (ι:=Int) (fun v=>⟨111,1,[sI 12 r21.1,sI 11 v,sI 10 y15,sI 9 y16,sI 8 y1,sA 7 7 3 0,sA 0 0 3 0,sI 1 x1,sI 2 x2],[(0,(fR (zL r21.2))),(7,[cL 11 ([]:List zA) zB,cL 4 y5 zE,cL 7 ([]:List Say) zI])]⟩) (fun v=>J5 n (fun v=>zy n mo10 x1 x2 v.1 v.2.1 v.2.2.1 v.2.2.2.1 v.2.2.2.2) r21 x2 y1 y15 y16 y5 v=some o10) ?_ ?_
  ·refine tB<|Tr.loop (ι:=Nat×(Int)) (fun v=>⟨111,1,[sI 12 r21.1,sI 11 v.2,sI 10 y15,sI 9 y16,sI 8 y1,sA 7 7 3 0,sA 0 0 3 0,sI 1 x1,sI 2 x2],[(0,(fR (zL r21.2))),(7,[cL 11 ([]:List zA) zB,cL 4 y5 zE,cL 7 ([]:List Say) zI])]⟩) (fun v=>YG n v.1 x2 y16 y5 v.2=some o32) (fun v=>v.1) (n,r20.1) eo32 (za [12,11,10,9,8,7,0,1,2] [0,7] kr) ?_
   rintro⟨_|mo32,y22⟩ H
   ·exact nN H
   have H:YG n (mo32+1) x2 y16 y5 y22=some o32:=H
   rw[YG]at H
   refine tS<|rA 3<|bE H fun r33 er33 H=>vB [.rd,.rd,.rd] [.box 7] (zBk n (⟨([]:List zA),y5,([]:List Say)⟩:Net) y16 y22 r33 er33) (.inr (zN (zH zT zR) zS))<|lA 2 ?_
   obtain⟨h8,H⟩|⟨h8,H⟩:=bC H
   ·refine qL 0x80000000001f87 129 [55] h8<|uA 5 0x1000000000001f87 129<|nB_<|Tr.exit<|aJ ?_
    cases H
    exact jA y22 Ho32 [12,11,10,9,8,7,0,1,2] [0,7]
   refine qL 0x80000000001f87 129 [55] h8<|uA 5 0x1000000000001f87 129 ?_
   obtain⟨h9,H⟩|⟨h9,H⟩:=bC H
   ·refine nA h9<|Tr.exit<|aJ ?_
    cases H
    exact jA y22 Ho32 [12,11,10,9,8,7,0,1,2] [0,7]
   exact tA h9<|tK<|tB<|eA 3 8071 129<|jB mo32 (wI (y22+1)) H [12,11,10,9,8,7,0,1,2] [0,7]
  rintro y23 H
  have H:(J5 n (fun v=>zy n mo10 x1 x2 v.1 v.2.1 v.2.2.1 v.2.2.2.1 v.2.2.2.2) r21 x2 y1 y15 y16 y5 y23)=some o10:=H
  unfold J5 at H
  refine tS ?_
  obtain⟨o30,eo30,Ho30⟩:=bs H
  clear H
  refine zt (ι:=Int) (fun v=>⟨111,1,[sI 12 v,sI 11 y23,sI 10 y15,sI 9 y16,sI 8 y1,sA 7 7 3 0,sA 0 0 3 0,sI 1 x1,sI 2 x2],[(0,(fR (zL r21.2))),(7,[cL 11 ([]:List zA) zB,cL 4 y5 zE,cL 7 ([]:List Say) zI])]⟩) (fun v=>J6 n (fun v=>zy n mo10 x1 x2 v.1 v.2.1 v.2.2.1 v.2.2.2.1 v.2.2.2.2) r21 y1 y15 y16 y23 y5 v=some o10) ?_ ?_
  ·refine tB<|Tr.loop (ι:=Nat×(Int)) (fun v=>⟨111,1,[sI 12 v.2,sI 11 y23,sI 10 y15,sI 9 y16,sI 8 y1,sA 7 7 3 0,sA 0 0 3 0,sI 1 x1,sI 2 x2],[(0,(fR (zL r21.2))),(7,[cL 11 ([]:List zA) zB,cL 4 y5 zE,cL 7 ([]:List Say) zI])]⟩) (fun v=>YF n v.1 x2 y15 y5 v.2=some o30) (fun v=>v.1) (n,r21.1) eo30 (za [12,11,10,9,8,7,0,1,2] [0,7] kr) ?_
   rintro⟨_|mo30,y24⟩ H
   ·exact nN H
   have H:YF n (mo30+1) x2 y15 y5 y24=some o30:=H
   rw[YF]at H
   refine tS<|rA 3<|bE H fun r31 er31 H=>vB [.rd,.rd,.rd] [.box 7] (zBk n (⟨([]:List zA),y5,([]:List Say)⟩:Net) y15 y24 r31 er31) (.inr (zN (zH zT zR) zS))<|lA 2 ?_
   obtain⟨h6,H⟩|⟨h6,H⟩:=bC H
   ·refine qL 0x100000000000001f87 129 [68] h6<|uA 5 0x2000000000000001f87 129<|nB_<|Tr.exit<|aJ ?_
    cases H
    exact jA y24 Ho30 [12,11,10,9,8,7,0,1,2] [0,7]
   refine qL 0x100000000000001f87 129 [68] h6<|uA 5 0x2000000000000001f87 129 ?_
   obtain⟨h7,H⟩|⟨h7,H⟩:=bC H
   ·refine nA h7<|Tr.exit<|aJ ?_
    cases H
    exact jA y24 Ho30 [12,11,10,9,8,7,0,1,2] [0,7]
   exact tA h7<|tK<|tB<|eA 3 8071 129<|jB mo30 (wI (y24+1)) H [12,11,10,9,8,7,0,1,2] [0,7]
  rintro y25 H
  have H:(J6 n (fun v=>zy n mo10 x1 x2 v.1 v.2.1 v.2.2.1 v.2.2.2.1 v.2.2.2.2) r21 y1 y15 y16 y23 y5 y25)=some o10:=H
  unfold J6 at H
  refine tS<|zt (ι:=Bool) (fun v=>⟨111,1,[sB 98 v,sI 12 y25,sI 11 y23,sI 10 y15,sI 9 y16,sI 8 y1,sA 7 7 3 0,sA 0 0 3 0,sI 1 x1,sI 2 x2],[(0,(fR (zL r21.2))),(7,[cL 11 ([]:List zA) zB,cL 4 y5 zE,cL 7 ([]:List Say) zI])]⟩) (fun v=>QY n (fun v=>zy n mo10 x1 x2 v.1 v.2.1 v.2.2.1 v.2.2.2.1 v.2.2.2.2) r21 y1 y15 y16 y23 y25 y5 v=some o10) ?_ ?_
  ·refine Tr.at<|lA 4 ?_
   obtain⟨h3,H⟩|⟨h3,H⟩:=bC H
   ·exact qL 0x80000000000000001f87 129 [79] h3<|uA 19 0x4000000000000000000001f87 129<|jA false H [98,12,11,10,9,8,7,0,1,2] [0,7]
   refine qL 0x80000000000000001f87 129 [79] h3<|lA 3<|bE H fun r28 er28 H=>vB [.rd,.rd,.rd] [.box 7] (zBk n (⟨([]:List zA),y5,([]:List Say)⟩:Net) y16 y23 r28 er28) (.inr (zN (zH zT zR) zS))<|lA 3 ?_
   obtain⟨h4,H⟩|⟨h4,H⟩:=bC H
   ·exact qL 0x4000000000000000001f87 129 [86] h4<|uA 12 0x4000000000000000000001f87 129<|jA false H [98,12,11,10,9,8,7,0,1,2] [0,7]
   refine qL 0x4000000000000000001f87 129 [86] h4<|lA 3<|bE H fun r29 er29 H=>vB [.rd,.rd,.rd] [.box 7] (zBk n (⟨([]:List zA),y5,([]:List Say)⟩:Net) y15 y25 r29 er29) (.inr (zN (zH zT zR) zS))<|lA 3 ?_
   obtain⟨h5,H⟩|⟨h5,H⟩:=bC H
   ·exact qL 0x200000000000000000001f87 129 [93] h5<|uA 5 0x4000000000000000000001f87 129<|jA false H [98,12,11,10,9,8,7,0,1,2] [0,7]
   exact qL 0x200000000000000000001f87 129 [93] h5<|lA 2<|kO y5 zE<|uA 2 0x4000000000000000000001f87 129<|jA (decide ((y5.length:Int)<9)) H [98,12,11,10,9,8,7,0,1,2] [0,7]
  rintro y26 H
  have H:(QY n (fun v=>zy n mo10 x1 x2 v.1 v.2.1 v.2.2.1 v.2.2.2.1 v.2.2.2.2) r21 y1 y15 y16 y23 y25 y5 y26)=some o10:=H
  unfold QY at H
  cases h2:y26
  ·have H:=YA h2 H
   exact nB_<|tK<|eA 3 391 129<|jB mo10 ((wI (y1+1)),r21.2.b,r21.2.i,r21.2.h,y5) H [8,7,0,1,2] [7,0]
  have H:=YB h2 H
  exact tB_<|Tr.at<|lA 8<|gE H fun hg27 H=>qO tOk (t:=25) (ty:=25) (e:=70) (x:=(.tmp 100)) (y:=(.tmp 106)) (d:=107) (g:=none) (tI 70) zE y5 [(⟨y16,y23,y15,y25⟩:Link)] kr kr kr kr kr kr kr kr kr kr hg27<|uA 2 391 129<|eA 3 391 129<|jB mo10 ((wI (y1+1)),r21.2.b,r21.2.i,r21.2.h,(y5++[(⟨y16,y23,y15,y25⟩:Link)])) H [8,7,0,1,2] [7,0]
 rintro⟨y6,y7,y8,y9⟩ H
 have H:(zBe n y6 y7 y8 y9)=some r:=H
 unfold zBe at H
 exact gA 3 65 129<|te<|fY [(false,[cL 4 y9 zE])] [(0,[cF 1 y6 qC,cI y7,cI y8])] H
def ze(n:Nat)(x0:Int)(x1:Int)(x2:Int):Option (Bool):=
  (bif (decide (x0≥x1))then(some (decide (x0≤x2)))else(some false))
theorem zf(n:Nat)(x0:Int)(x1:Int)(x2:Int)(r:Bool)(H:ze n x0 x1 x2=some r):zb Tryz.prog 57 [.val false [.lit (.int .i64 x0)],.val false [.lit (.int .i64 x1)],.val false [.lit (.int .i64 x2)]] [.val false [.lit (.bool r)]] []:=by
 refine cW Tryz.func57 (fun g d=>sl [g 0,g 1] .ret) [.tmp 6] fun cx=>?_
 unfold ze at H
 refine gA 1 7 0<|rA 4 ?_
 obtain⟨h1,H⟩|⟨h1,H⟩:=bC H
 ·exact qL 1029 0 [10] h1<|uA 5 64 0<|te (fF H)
 exact qL 1029 0 [10] h1<|uA 5 64 0<|te (fJ [(false,[cB (decide (x0≤x2))])] H)
def zAe(n:Nat)(x0:Int)(y5:(List Int)):Option (zm):=
  (some (⟨[(⟨1,(wI ((wI (1*2^min (((IntKind.wrap .u64 x0):Int)).toNat (IntKind.bits .i64)))-1)),(wI ((wI (1*2^min (((IntKind.wrap .u64 x0):Int)).toNat (IntKind.bits .i64)))-1))⟩:zX)],y5⟩:zm))
def Q3(n:Nat):Nat→Int→Int→(List Int)→Option (((List Int))⊕(zm))
  |0,_,_,_=>none
  |mo6+1,x0,y3,y4=>(bif (decide (y3<x0))then(bif (decide (y4.length+ [1].length≤268435456))then(Q3 n mo6 x0 (wI (y3+1)) (y4++[1]))else none)else(some (Sum.inl y4)))
def Yu(n:Nat)(x0:Int):Option (zm):=
  ((ze n x0 1 6).bind fun r1=>(bif (!r1)then(some (⟨([]:List zX),([]:List Int)⟩:zm))else(bif (decide ((0:Int)≤(IntKind.wrap .u64 x0)))then((Q3 n n x0 0 ([]:List Int)).bind fun o=>match o with|.inl y5=>(zAe n x0 y5)|.inr r=>some r)else none)))
theorem zI9(n:Nat)(x0:Int)(r:zm)(H:Yu n x0=some r):zb Tryz.prog 170 [.val false [.lit (.int .i64 x0)]] [.val true (zc r)] []:=by
 refine cW Tryz.func170 (fun g d=>sl [g 0,sl [g 1] (cn 8 (sl [g 2] .ret) .skip),g 3,g 4,sl [g 5] (.block 0 (.loop (sl [sl [g 6] (cn 21 .skip (.exit 0)),.block 1 (g 8)] (g 7)))),g 9] .ret) [.cell 2 62] fun cx=>?_
 unfold Yu at H
 refine gA 1 5 4<|tS<|rA 1<|bE H fun r1 er1 H=>vA [.rd,.rd,.rd] (zf n x0 1 6 r1 er1)<|uA 1 261 4 ?_
 obtain⟨h1,H⟩|⟨h1,H⟩:=bC H
 ·refine nA h1<|tK<|rA 2<|gE H fun hg2 H=>Ym tOk (op:=.shl) (t:=3) (ty:=133) (ty':=3) (x:=(.const (.int .i64 1))) (y:=(.tmp 11)) (d:=12) (g:=none) (.int .i64 1) (.int .u64 (IntKind.wrap .u64 x0)) (.int .i64 (wI (1*2^min (((IntKind.wrap .u64 x0):Int)).toNat (IntKind.bits .i64)))) _ kr kr kr kr kr (φ:=(0:Int)≤(IntKind.wrap .u64 x0)) kr (of_decide_eq_true hg2) rfl<|uA 2 13 4<|gA 7 21 20<|tS<|gA 1 53 20 ?_
  obtain⟨o6,eo6,Ho6⟩:=bs H
  clear H
  refine zt (ι:=(List Int)) (fun v=>⟨30,0,[sA 4 4 2 0,sA 2 2 2 0],[(4,[cL 3 [(⟨1,(wI ((wI (1*2^min (((IntKind.wrap .u64 x0):Int)).toNat (IntKind.bits .i64)))-1)),(wI ((wI (1*2^min (((IntKind.wrap .u64 x0):Int)).toNat (IntKind.bits .i64)))-1))⟩:zX)] zF,cL 1 v zC]),(2,[cL 3 ([]:List zX) zF,cL 1 ([]:List Int) zC])]⟩) (fun v=>zAe n x0 v=some r) ?_ ?_
  ·refine tB<|Tr.loop (ι:=Nat×(Int×(List Int))) (fun v=>⟨30,0,[sI 5 v.2.1,sA 4 4 2 0,sA 2 2 2 0,sI 0 x0],[(4,[cL 3 [(⟨1,(wI ((wI (1*2^min (((IntKind.wrap .u64 x0):Int)).toNat (IntKind.bits .i64)))-1)),(wI ((wI (1*2^min (((IntKind.wrap .u64 x0):Int)).toNat (IntKind.bits .i64)))-1))⟩:zX)] zF,cL 1 v.2.2 zC]),(2,[cL 3 ([]:List zX) zF,cL 1 ([]:List Int) zC])]⟩) (fun v=>Q3 n v.1 x0 v.2.1 v.2.2=some o6) (fun v=>v.1) (n,(0,([]:List Int))) eo6 (za [5,4,2,0] [4,2] kr) ?_
   rintro⟨_|mo6,y3,y4⟩ H
   ·exact nN H
   have H:Q3 n (mo6+1) x0 y3 y4=some o6:=H
   rw[Q3]at H
   refine tS<|gA 3 2097205 20 ?_
   obtain⟨h2,H⟩|⟨h2,H⟩:=bC H
   ·refine nA h2<|Tr.exit<|aJ ?_
    cases H
    exact jA y4 Ho6 [4,2] [4,2]
   exact tA h2<|tK<|tS<|tB<|Tr.at<|lA 3<|gE H fun hg7 H=>qO tOk (t:=30) (ty:=30) (e:=3) (x:=(.tmp 25)) (y:=(.tmp 26)) (d:=27) (g:=none) (tI 3) zC y4 [1] kr kr kr kr kr kr kr kr kr kr hg7<|uA 2 53 20<|eA 3 53 20<|jB mo6 ((wI (y3+1)),(y4++[1])) H [5,4,2,0] [4,2]
  rintro y5 H
  have H:(zAe n x0 y5)=some r:=H
  unfold zAe at H
  exact gA 2 4 4<|te (fJ [(true,[cL 3 [(⟨1,(wI ((wI (1*2^min (((IntKind.wrap .u64 x0):Int)).toNat (IntKind.bits .i64)))-1)),(wI ((wI (1*2^min (((IntKind.wrap .u64 x0):Int)).toNat (IntKind.bits .i64)))-1))⟩:zX)] zF,cL 1 y5 zC])] H)
 exact tA h1<|gA 2 4 4<|te (fJ [(true,[cL 3 ([]:List zX) zF,cL 1 ([]:List Int) zC])] H)
def zA2(n:Nat)(r3:zm)(x0:Int)(y6:(List Pt)):Option (zA):=
  (some (⟨x0,(⟨#[]⟩:ByteArray),y6,([]:List zM),r3,0,0,0,0,0⟩:zA))
def Ya(n:Nat):Nat→Int→Int→(List Pt)→Option (((List Pt))⊕(zA))
  |0,_,_,_=>none
  |mo7+1,x1,y4,y5=>(bif (decide (y4<x1))then(bif (decide (y5.length+ [(⟨false,1,false,(⟨0,0,0,0,0⟩:Vec)⟩:Pt)].length≤268435456))then(Ya n mo7 x1 (wI (y4+1)) (y5++[(⟨false,1,false,(⟨0,0,0,0,0⟩:Vec)⟩:Pt)]))else none)else(some (Sum.inl y5)))
def q9(n:Nat)(x0:Int)(x1:Int):Option (zA):=
  ((ze n x0 1 99).bind fun r1=>(bif (!r1)then(some (⟨0,(⟨#[]⟩:ByteArray),([]:List Pt),([]:List zM),(⟨([]:List zX),([]:List Int)⟩:zm),0,0,0,0,0⟩:zA))else((ze n x1 1 6).bind fun r2=>(bif (!r2)then(some (⟨0,(⟨#[]⟩:ByteArray),([]:List Pt),([]:List zM),(⟨([]:List zX),([]:List Int)⟩:zm),0,0,0,0,0⟩:zA))else((Yu n x1).bind fun r3=>((Ya n n x1 0 ([]:List Pt)).bind fun o=>match o with|.inl y6=>(zA2 n r3 x0 y6)|.inr r=>some r))))))
theorem zHP(n:Nat)(x0:Int)(x1:Int)(r:zA)(H:q9 n x0 x1=some r):zb Tryz.prog 155 [.val false [.lit (.int .i64 x0)],.val false [.lit (.int .i64 x1)]] [.val true (zB r)] []:=by
 refine cW Tryz.func155 (fun g d=>sl [g 0,sl [g 1] (cn 14 (sl [g 2] .ret) .skip),g 3,sl [g 4] (.block 0 (.loop (sl [sl [g 5] (cn 22 .skip (.exit 0)),.block 1 (g 7)] (g 6)))),g 8] .ret) [.cell 4 64] fun cx=>?_
 unfold q9 at H
 refine gA 1 19 16<|tS<|rA 1<|bE H fun r1 er1 H=>vA [.rd,.rd,.rd] (zf n x0 1 99 r1 er1)<|lA 2 ?_
 obtain⟨h1,H⟩|⟨h1,H⟩:=bC H
 ·refine qL 1043 16 [10] h1<|lA 1<|bE H fun r2 er2 H=>vA [.rd,.rd,.rd] (zf n x1 1 6 r2 er2)<|uA 2 16403 16 ?_
  obtain⟨h2,H⟩|⟨h2,H⟩:=bC H
  ·refine nA h2<|tK<|rA 2<|bE H fun r3 er3 H=>vA [.rd] (zI9 n x1 r3 er3)<|uA 3 50 48<|tS<|gA 1 114 48 ?_
   obtain⟨o7,eo7,Ho7⟩:=bs H
   clear H
   refine zt (ι:=(List Pt)) (fun v=>⟨32,0,[sA 5 5 11 0,sA 4 4 11 0],[(5,[cI x0,cS (⟨#[]⟩:ByteArray),cL 8 v zJ,cL 5 ([]:List zM) zG,cL 3 r3.Rows zF,cL 1 r3.Pv zC,cI 0,cI 0,cI 0,cI 0,cI 0]),(4,[cI 0,cS (⟨#[]⟩:ByteArray),cL 8 ([]:List Pt) zJ,cL 5 ([]:List zM) zG,cL 3 ([]:List zX) zF,cL 1 ([]:List Int) zC,cI 0,cI 0,cI 0,cI 0,cI 0])]⟩) (fun v=>zA2 n r3 x0 v=some r) ?_ ?_
   ·refine tB<|Tr.loop (ι:=Nat×(Int×(List Pt))) (fun v=>⟨32,0,[sI 6 v.2.1,sA 5 5 11 0,sA 4 4 11 0,sI 1 x1],[(5,[cI x0,cS (⟨#[]⟩:ByteArray),cL 8 v.2.2 zJ,cL 5 ([]:List zM) zG,cL 3 r3.Rows zF,cL 1 r3.Pv zC,cI 0,cI 0,cI 0,cI 0,cI 0]),(4,[cI 0,cS (⟨#[]⟩:ByteArray),cL 8 ([]:List Pt) zJ,cL 5 ([]:List zM) zG,cL 3 ([]:List zX) zF,cL 1 ([]:List Int) zC,cI 0,cI 0,cI 0,cI 0,cI 0])]⟩) (fun v=>Ya n v.1 x1 v.2.1 v.2.2=some o7) (fun v=>v.1) (n,(0,([]:List Pt))) eo7 (za [6,5,4,1] [5,4] kr) ?_
    rintro⟨_|mo7,y4,y5⟩ H
    ·exact nN H
    have H:Ya n (mo7+1) x1 y4 y5=some o7:=H
    rw[Ya]at H
    refine tS<|gA 3 4194418 48 ?_
    obtain⟨h3,H⟩|⟨h3,H⟩:=bC H
    ·refine nA h3<|Tr.exit<|aJ ?_
     cases H
     exact jA y5 Ho7 [5,4] [5,4]
    exact tA h3<|tK<|tS<|tB<|Tr.at<|lA 4<|gE H fun hg8 H=>qO tOk (t:=58) (ty:=58) (e:=83) (x:=(.tmp 26)) (y:=(.tmp 28)) (d:=29) (g:=none) (tI 83) zJ y5 [(⟨false,1,false,(⟨0,0,0,0,0⟩:Vec)⟩:Pt)] kr kr kr kr kr kr kr kr kr kr hg8<|uA 2 114 48<|eA 3 114 48<|jB mo7 ((wI (y4+1)),(y5++[(⟨false,1,false,(⟨0,0,0,0,0⟩:Vec)⟩:Pt)])) H [6,5,4,1] [5,4]
   rintro y6 H
   have H:(zA2 n r3 x0 y6)=some r:=H
   unfold zA2 at H
   exact gA 2 16 16<|te (fJ [(true,[cI x0,cS (⟨#[]⟩:ByteArray),cL 8 y6 zJ,cL 5 ([]:List zM) zG,cL 3 r3.Rows zF,cL 1 r3.Pv zC,cI 0,cI 0,cI 0,cI 0,cI 0])] H)
  exact tA h2<|gA 2 16 16<|te (fJ [(true,[cI 0,cS (⟨#[]⟩:ByteArray),cL 8 ([]:List Pt) zJ,cL 5 ([]:List zM) zG,cL 3 ([]:List zX) zF,cL 1 ([]:List Int) zC,cI 0,cI 0,cI 0,cI 0,cI 0])] H)
 exact qL 1043 16 [10] h1<|uA 4 16403 16<|tB_<|gA 2 16 16<|te (fJ [(true,[cI 0,cS (⟨#[]⟩:ByteArray),cL 8 ([]:List Pt) zJ,cL 5 ([]:List zM) zG,cL 3 ([]:List zX) zF,cL 1 ([]:List Int) zC,cI 0,cI 0,cI 0,cI 0,cI 0])] H)
def qK(n:Nat)(x0:Vec):Option (Bool):=
  ((ze n x0.Root 1 99).bind fun r1=>(bif r1 then((ze n x0.Co 0 100000).bind fun r2=>(bif r2 then((ze n x0.Hops 0 10).bind fun r3=>(bif r3 then((ze n x0.Bridge 1 99).bind fun r4=>(bif r4 then((ze n x0.Port 0 7).bind fun r5=>(some r5))else(some false)))else(some false)))else(some false)))else(some false)))
theorem zE9(n:Nat)(x0:Vec)(r:Bool)(H:qK n x0=some r):zb Tryz.prog 116 [.val true (fR (zj x0))] [.val false [.lit (.bool r)]] []:=by
 refine cW Tryz.func116 (fun g d=>sl [g 0,g 1] .ret) [.tmp 2] fun cx=>?_
 unfold qK at H
 refine gA 2 2 2<|rA 2<|bE H fun r1 er1 H=>vA [.rd,.rd,.rd] (zf n x0.Root 1 99 r1 er1)<|lA 1 ?_
 obtain⟨h1,H⟩|⟨h1,H⟩:=bC H
 ·exact qL 66 2 [6] h1<|uA 20 4 0<|te (fF H)
 refine qL 66 2 [6] h1<|lA 2<|bE H fun r2 er2 H=>vA [.rd,.rd,.rd] (zf n x0.Co 0 100000 r2 er2)<|lA 2 ?_
 obtain⟨h2,H⟩|⟨h2,H⟩:=bC H
 ·exact qL 2050 2 [11] h2<|uA 15 4 0<|te (fF H)
 refine qL 2050 2 [11] h2<|lA 2<|bE H fun r3 er3 H=>vA [.rd,.rd,.rd] (zf n x0.Hops 0 10 r3 er3)<|lA 2 ?_
 obtain⟨h3,H⟩|⟨h3,H⟩:=bC H
 ·exact qL 65538 2 [16] h3<|uA 10 4 0<|te (fF H)
 refine qL 65538 2 [16] h3<|lA 2<|bE H fun r4 er4 H=>vA [.rd,.rd,.rd] (zf n x0.Bridge 1 99 r4 er4)<|lA 2 ?_
 obtain⟨h4,H⟩|⟨h4,H⟩:=bC H
 ·exact qL 2097154 2 [21] h4<|uA 5 4 0<|te (fF H)
 exact qL 2097154 2 [21] h4<|lA 2<|bE H fun r5 er5 H=>vA [.rd,.rd,.rd] (zf n x0.Port 0 7 r5 er5)<|uA 2 4 0<|te (fJ [(false,[cB r5])] H)
def qZ(n:Nat)(x0:Pt):Option (Bool):=
  ((ze n x0.Co 1 1000).bind fun r1=>(bif (!r1)then(some false)else(bif (!x0.Up)then(bif x0.Has then(some false)else(some ((x0.Hd.Root==0)&&((x0.Hd.Co==0)&&((x0.Hd.Hops==0)&&((x0.Hd.Bridge==0)&&((x0.Hd.Port==0)&&true)))))))else(bif (!x0.Has)then(some ((x0.Hd.Root==0)&&((x0.Hd.Co==0)&&((x0.Hd.Hops==0)&&((x0.Hd.Bridge==0)&&((x0.Hd.Port==0)&&true))))))else((qK n x0.Hd).bind fun r2=>(some r2))))))
theorem zQ4(n:Nat)(x0:Pt)(r:Bool)(H:qZ n x0=some r):zb Tryz.prog 149 [.val true (fR (zJ x0))] [.val false [.lit (.bool r)]] []:=by
 refine cW Tryz.func149 (fun g d=>sl [g 0,sl [g 1] (cn 15 (sl [g 2] .ret) .skip),sl [g 3] (cn 18 (sl [g 4] .ret) .skip),g 5] .ret) [.tmp 2] fun cx=>?_
 unfold qZ at H
 refine gA 2 2 2<|tS<|rA 2<|bE H fun r1 er1 H=>vA [.rd,.rd,.rd] (zf n x0.Co 1 1000 r1 er1)<|lA 2 ?_
 obtain⟨h1,H⟩|⟨h1,H⟩:=bC H
 ·refine qL 130 2 [7] h1<|lA 4 ?_
  obtain⟨h2,H⟩|⟨h2,H⟩:=bC H
  ·refine qL 2178 2 [11] h2<|uA 4 32770 2<|nB_<|tK<|tS<|gA 3 262146 2 ?_
   obtain⟨h3,H⟩|⟨h3,H⟩:=bC H
   ·exact nA h3<|tK<|rA 2<|bE H fun r2 er2 H=>vA [.rd] (zE9 n x0.Hd r2 er2)<|uA 1 4 0<|te (fJ [(false,[cB r2])] H)
   exact tA h3<|rA 3<|zH0 false (t:=73) (ty:=73) (ty':=4) (x:=(.tmp 20)) (y:=(.tmp 21)) (d:=22) (g:=none) ((x0.Hd.Root==0)&&((x0.Hd.Co==0)&&((x0.Hd.Hops==0)&&((x0.Hd.Bridge==0)&&((x0.Hd.Port==0)&&true))))) _ kr kr kr kr rfl<|uA 1 4 0<|te (fJ [(false,[cB ((x0.Hd.Root==0)&&((x0.Hd.Co==0)&&((x0.Hd.Hops==0)&&((x0.Hd.Bridge==0)&&((x0.Hd.Port==0)&&true)))))])] H)
  refine qL 2178 2 [11] h2<|uA 4 32770 2 ?_
  obtain⟨h4,H⟩|⟨h4,H⟩:=bC H
  ·exact qT [15] h4<|nB_<|tK<|tS<|gA 3 262146 2<|qT [18] (congrArg not h4)<|tB_<|rA 3<|zH0 false (t:=73) (ty:=73) (ty':=4) (x:=(.tmp 20)) (y:=(.tmp 21)) (d:=22) (g:=none) ((x0.Hd.Root==0)&&((x0.Hd.Co==0)&&((x0.Hd.Hops==0)&&((x0.Hd.Bridge==0)&&((x0.Hd.Port==0)&&true))))) _ kr kr kr kr rfl<|uA 1 4 0<|te (fJ [(false,[cB ((x0.Hd.Root==0)&&((x0.Hd.Co==0)&&((x0.Hd.Hops==0)&&((x0.Hd.Bridge==0)&&((x0.Hd.Port==0)&&true)))))])] H)
  exact qT [15] h4<|tB_<|gA 1 4 0<|te (fF H)
 exact qL 130 2 [7] h1<|uA 8 32770 2<|tB_<|gA 1 4 0<|te (fF H)
def Zt(n:Nat)(x0:zM):Option (Bool):=
  ((ze n x0.Tag 1 99).bind fun r1=>(bif r1 then((ze n x0.Mac 1 9999).bind fun r2=>(bif r2 then((ze n x0.Port 0 7).bind fun r3=>(bif r3 then((ze n x0.Age 0 4).bind fun r4=>(bif r4 then(bif (!x0.Sc)then(some true)else(some (x0.Age==0)))else(some false)))else(some false)))else(some false)))else(some false)))
theorem zFB(n:Nat)(x0:zM)(r:Bool)(H:Zt n x0=some r):zb Tryz.prog 167 [.val true (fR (zG x0))] [.val false [.lit (.bool r)]] []:=by
 refine cW Tryz.func167 (fun g d=>sl [g 0,g 1] .ret) [.tmp 2] fun cx=>?_
 unfold Zt at H
 refine gA 2 2 2<|rA 2<|bE H fun r1 er1 H=>vA [.rd,.rd,.rd] (zf n x0.Tag 1 99 r1 er1)<|lA 1 ?_
 obtain⟨h1,H⟩|⟨h1,H⟩:=bC H
 ·exact qL 66 2 [6] h1<|uA 25 4 0<|te (fF H)
 refine qL 66 2 [6] h1<|lA 2<|bE H fun r2 er2 H=>vA [.rd,.rd,.rd] (zf n x0.Mac 1 9999 r2 er2)<|lA 2 ?_
 obtain⟨h2,H⟩|⟨h2,H⟩:=bC H
 ·exact qL 2050 2 [11] h2<|uA 20 4 0<|te (fF H)
 refine qL 2050 2 [11] h2<|lA 2<|bE H fun r3 er3 H=>vA [.rd,.rd,.rd] (zf n x0.Port 0 7 r3 er3)<|lA 2 ?_
 obtain⟨h3,H⟩|⟨h3,H⟩:=bC H
 ·exact qL 65538 2 [16] h3<|uA 15 4 0<|te (fF H)
 refine qL 65538 2 [16] h3<|lA 2<|bE H fun r4 er4 H=>vA [.rd,.rd,.rd] (zf n x0.Age 0 4 r4 er4)<|lA 2 ?_
 obtain⟨h4,H⟩|⟨h4,H⟩:=bC H
 ·exact qL 2097154 2 [21] h4<|uA 10 4 0<|te (fF H)
 refine qL 2097154 2 [21] h4<|lA 4 ?_
 obtain⟨h5,H⟩|⟨h5,H⟩:=bC H
 ·exact qL 35651586 2 [25] h5<|uA 6 4 0<|te (fJ [(false,[cB (x0.Age==0)])] H)
 exact qL 35651586 2 [25] h5<|uA 6 4 0<|te (fT H)
def QL(n:Nat)(x0:zM)(x1:Int)(x2:Int):Option (Bool):=
  (bif (x0.Tag != x1)then(some (decide (x0.Tag<x1)))else(some (decide (x0.Mac<x2))))
theorem zJD(n:Nat)(x0:zM)(x1:Int)(x2:Int)(r:Bool)(H:QL n x0 x1 x2=some r):zb Tryz.prog 168 [.val true (fR (zG x0)),.val false [.lit (.int .i64 x1)],.val false [.lit (.int .i64 x2)]] [.val false [.lit (.bool r)]] []:=by
 refine cW Tryz.func168 (fun g d=>sl [g 0,sl [g 1] (cn 10 (sl [g 2] .ret) .skip),g 3] .ret) [.tmp 6] fun cx=>?_
 unfold QL at H
 refine gA 2 14 8<|tS<|gA 4 1038 8 ?_
 obtain⟨h1,H⟩|⟨h1,H⟩:=bC H
 ·exact nA h1<|tK<|gA 5 64 0<|te (fJ [(false,[cB (decide (x0.Mac<x2))])] H)
 exact tA h1<|gA 5 64 0<|te (fJ [(false,[cB (decide (x0.Tag<x1))])] H)
def zBw(n:Nat)(x0:(List zM)):Option (Bool):=
  (some (decide ((x0.length:Int)≤12)))
def qt(n:Nat):Nat→(List zM)→Int→Option ((Unit)⊕(Bool))
  |0,_,_=>none
  |mo2+1,x0,y1=>(bif (decide (y1<(x0.length:Int)))then((idx x0 y1).bind fun v3=>((Zt n v3).bind fun r4=>(bif (!r4)then(some (Sum.inr false))else(bif (decide (y1>0))then((idx x0 (wI (y1-1))).bind fun v5=>((idx x0 y1).bind fun v6=>((idx x0 y1).bind fun v7=>((QL n v5 v6.Tag v7.Mac).bind fun r8=>(bif (!r8)then(some (Sum.inr false))else(qt n mo2 x0 (wI (y1+1))))))))else(qt n mo2 x0 (wI (y1+1)))))))else(some (Sum.inl ())))
def Zr(n:Nat)(x0:(List zM)):Option (Bool):=
  ((qt n n x0 0).bind fun o=>match o with|.inl _=>(zBw n x0)|.inr r=>some r)
def zTO:Tab:=⟨29,[0,0,3,4,8,16,48,64,192,320,512,512,2560,5632,8704,512,512,98816,131584,262656,512,512,3146240,4194816,8389120,17318400,33554944,67109440,134217792],[0,0,3,4,8,16,32,64,192,320,512,512,2560,5632,8704,512,512,98816,131584,262656,512,512,3146240,4194816,8389120,17318400,33554944,67109440,134217792],[0,0,3,7,15,31,63,127,255,511,1023,1023,3071,8191,16383,1023,1023,99327,230399,492543,1023,1023,3146751,7341055,15729663,33554431,67108863,134217727,268435455]⟩
theorem Q9:qb (rg Tryz.f150 4) zTO=true:=kr
theorem zIZ(n:Nat)(x0:(List zM))(r:Bool)(H:Zr n x0=some r):zb Tryz.prog 150 [.val false [.sl false 5 (zQ (x0.map zG))]] [.val false [.lit (.bool r)]] []:=by
 refine cW Tryz.func150 (fun g d=>sl [g 0,sl [g 1] (.block 0 (.loop (sl [sl [g 2] (cn 7 .skip (.exit 0)),.block 1 (sl [d 4] (cn 38 (sl [g 5] .ret) .skip))] (g 3)))),g 6] .ret) [.tmp 2] fun cx=>?_
 unfold Zr at H
 refine gA 1 1 0<|tS<|gA 1 9 0 ?_
 obtain⟨o2,eo2,Ho2⟩:=bs H
 clear H
 refine zt (ι:=Unit) (fun v=>⟨42,0,[sC 0 (cF 5 x0 zG)],[]⟩) (fun v=>zBw n x0=some r) ?_ ?_
 ·refine tB<|Tr.loop (ι:=Nat×(Int)) (fun v=>⟨42,0,[sI 3 v.2,sC 0 (cF 5 x0 zG)],[]⟩) (fun v=>qt n v.1 x0 v.2=some o2) (fun v=>v.1) (n,0) eo2 (za [3,0] [] kr) ?_
  rintro⟨_|mo2,y1⟩ H
  ·exact nN H
  have H:qt n (mo2+1) x0 y1=some o2:=H
  rw[qt]at H
  refine tS<|rA 2<|kF x0 zG<|uA 1 137 0 ?_
  obtain⟨h1,H⟩|⟨h1,H⟩:=bC H
  ·refine nA h1<|Tr.exit<|aJ ?_
   cases H
   exact jA () Ho2 [0] []
  refine tA h1<|tK<|tS<|tB<|bE H fun v3 ev3 H=>bE H fun r4 er4 H=>sT ⟨42,0,[sB 7 (decide (y1<(x0.length:Int))),sI 3 y1,sC 0 (cF 5 x0 zG)],[]⟩ ?_
  cases h2:(!r4)
  ·have H:=YA h2 H
   refine sT ⟨42,0,[sB 7 (decide (y1<(x0.length:Int))),sI 3 y1,sC 0 (cF 5 x0 zG)],[]⟩ ?_
   cases h3:(decide (y1>0))
   ·have H:=YA h3 H
    refine zd zr 29 kr ⟨42,0,[sB 38 false,sI 3 y1,sC 0 (cF 5 x0 zG)],[]⟩ (fun cx=>?_) ?_
    ·exact mA Q9 [(0,[]),(1,[])] 27 [] fun cx=>iN Q9 2 zG ev3 fun cx=>mA Q9 [(3,[])] 25 [] fun cx=>mC Q9 4<|vA [.rd] (zFB n v3 r4 er4)<|fA<|mA Q9 [(5,[]),(6,[])] 22 [] fun cx=>qA 65545 0 [16] h2<|mA Q9 (zl [7,8,9]) 19 [] fun cx=>qA 589833 0 [19] h3<|mA Q9 (zl [10,11,12,13,14,15,16,17,18,19,20,21,22,23,24,25,26,27,28]) 0 [] fun cx=>mE Q9 [38,3,0] []
    exact nB_<|tK<|eA 3 9 0<|jB mo2 (wI (y1+1)) H [3,0] []
   have H:=YB h3 H
   refine bE H fun v5 ev5 H=>bE H fun v6 ev6 H=>bE H fun v7 ev7 H=>bE H fun r8 er8 H=>zd zr 29 kr ⟨42,0,[sB 38 (!r8),sI 3 y1,sC 0 (cF 5 x0 zG)],[]⟩ (fun cx=>?_) ?_
   ·exact mA Q9 [(0,[]),(1,[])] 27 [] fun cx=>iN Q9 2 zG ev3 fun cx=>mA Q9 [(3,[])] 25 [] fun cx=>mC Q9 4<|vA [.rd] (zFB n v3 r4 er4)<|fA<|mA Q9 [(5,[]),(6,[])] 22 [] fun cx=>qA 65545 0 [16] h2<|mA Q9 (zl [7,8,9]) 19 [] fun cx=>qA 589833 0 [19] h3<|mA Q9 (zl [10,11,12]) 16 [] fun cx=>iN Q9 13 zG ev5 fun cx=>mA Q9 (zl [14,15,16]) 12 [] fun cx=>iN Q9 17 zG ev6 fun cx=>mA Q9 (zl [18,19,20,21]) 7 [] fun cx=>iN Q9 22 zG ev7 fun cx=>mA Q9 [(23,[]),(24,[])] 4 [] fun cx=>mC Q9 25<|vA [.rd,.rd,.rd] (zJD n v5 v6.Tag v7.Mac r8 er8)<|fA<|mA Q9 (zl [26,27,28]) 0 [] fun cx=>mE Q9 [38,3,0] []
   obtain⟨h4,H⟩|⟨h4,H⟩:=bC H
   ·exact qT [38] h4<|nB_<|tK<|eA 3 9 0<|jB mo2 (wI (y1+1)) H [3,0] []
   refine qT [38] h4<|tB_<|gA 1 4 0<|te ?_
   cases H
   exact fF Ho2
  have H:=YB h2 H
  refine zd zr 29 kr ⟨42,0,[sB 38 true,sI 3 y1,sC 0 (cF 5 x0 zG)],[]⟩ (fun cx=>?_) ?_
  ·exact mA Q9 [(0,[]),(1,[])] 27 [] fun cx=>iN Q9 2 zG ev3 fun cx=>mA Q9 [(3,[])] 25 [] fun cx=>mC Q9 4<|vA [.rd] (zFB n v3 r4 er4)<|fA<|mA Q9 [(5,[]),(6,[])] 22 [] fun cx=>qA 65545 0 [16] h2<|mA Q9 (zl [7,8,9,10,11,12,13,14,15,16,17,18,19,20,21,22,23,24,25,26,27,28]) 0 [] fun cx=>mE Q9 [38,3,0] []
  refine tB_<|gA 1 4 0<|te ?_
  cases H
  exact fF Ho2
 rintro _ H
 have H:(zBw n x0)=some r:=H
 unfold zBw at H
 exact rA 1<|kF x0 zG<|uA 2 4 0<|te (fJ [(false,[cB (decide ((x0.length:Int)≤12))])] H)
def zDh(n:Nat):Option (Int):=
  (some (-1))
def Qn(n:Nat):Nat→zm→Int→Int→Option ((Unit)⊕(Int))
  |0,_,_,_=>none
  |mo2+1,x0,x1,y1=>(bif (decide (y1<(x0.Rows.length:Int)))then((idx x0.Rows y1).bind fun v3=>(bif (v3.Id==x1)then(some (Sum.inr y1))else(Qn n mo2 x0 x1 (wI (y1+1)))))else(some (Sum.inl ())))
def zAU(n:Nat)(x0:zm)(x1:Int):Option (Int):=
  ((Qn n n x0 x1 0).bind fun o=>match o with|.inl _=>(zDh n)|.inr r=>some r)
theorem zMI(n:Nat)(x0:zm)(x1:Int)(r:Int)(H:zAU n x0 x1=some r):zb Tryz.prog 169 [.val true (fR (zc x0)),.val false [.lit (.int .i64 x1)]] [.val false [.lit (.int .i64 r)]] []:=by
 refine cW Tryz.func169 (fun g d=>sl [g 0,sl [g 1] (.block 0 (.loop (sl [sl [g 2] (cn 10 .skip (.exit 0)),.block 1 (sl [g 4] (cn 20 (sl [g 5] .ret) .skip))] (g 3)))),g 6] .ret) [.tmp 4] fun cx=>?_
 unfold zAU at H
 refine gA 2 6 4<|tS<|gA 1 38 4 ?_
 obtain⟨o2,eo2,Ho2⟩:=bs H
 clear H
 refine zt (ι:=Unit) (fun v=>⟨22,0,[],[]⟩) (fun v=>zDh n=some r) ?_ ?_
 ·refine tB<|Tr.loop (ι:=Nat×(Int)) (fun v=>⟨22,0,[sI 5 v.2,sA 2 2 2 0,sI 1 x1],[(2,(fR (zc x0)))]⟩) (fun v=>Qn n v.1 x0 x1 v.2=some o2) (fun v=>v.1) (n,0) eo2 (za [5,2,1] [2] kr) ?_
  rintro⟨_|mo2,y1⟩ H
  ·exact nN H
  have H:Qn n (mo2+1) x0 x1 y1=some o2:=H
  rw[Qn]at H
  refine tS<|rA 3<|kF x0.Rows zF<|uA 1 1062 4 ?_
  obtain⟨h1,H⟩|⟨h1,H⟩:=bC H
  ·refine nA h1<|Tr.exit<|aJ ?_
   cases H
   exact jA () Ho2 [] []
  refine tA h1<|tK<|tS<|tB<|rA 3<|bE H fun v3 ev3 H=>iA zF ev3<|uA 4 1048614 4 ?_
  obtain⟨h2,H⟩|⟨h2,H⟩:=bC H
  ·exact nA h2<|tK<|eA 3 38 4<|jB mo2 (wI (y1+1)) H [5,2,1] [2]
  refine tA h2<|gA 2 16 0<|te ?_
  cases H
  exact fJ [(false,[cI y1])] Ho2
 rintro _ H
 have H:(zDh n)=some r:=H
 unfold zDh at H
 exact gA 1 16 0<|te (fJ [(false,[cI (-1)])] H)
def zCt(n:Nat):Option (Bool):=
  (some true)
def Zi(n:Nat):Nat→zm→Int→Option ((Unit)⊕(Bool))
  |0,_,_=>none
  |mo5+1,x0,y4=>(bif (decide (y4<(x0.Pv.length:Int)))then((idx x0.Pv y4).bind fun v6=>((zAU n x0 v6).bind fun r7=>(bif (decide (r7<0))then(some (Sum.inr false))else(Zi n mo5 x0 (wI (y4+1))))))else(some (Sum.inl ())))
def JD(n:Nat)(x0:zm):Option (Bool):=
  ((Zi n n x0 0).bind fun o=>match o with|.inl _=>(zCt n)|.inr r=>some r)
def ZV(n:Nat):Nat→zm→Int→Int→Option ((Unit)⊕(Bool))
  |0,_,_,_=>none
  |mo8+1,x0,x1,y3=>(bif (decide (y3<(x0.Rows.length:Int)))then((idx x0.Rows y3).bind fun v9=>((ze n v9.Id 1 99).bind fun r10=>(bif (!r10)then(some (Sum.inr false))else((ze n v9.Members 0 (wI ((wI (1*2^min (((IntKind.wrap .u64 x1):Int)).toNat (IntKind.bits .i64)))-1))).bind fun r11=>(bif (!r11)then(some (Sum.inr false))else((ze n v9.Bare 0 (wI ((wI (1*2^min (((IntKind.wrap .u64 x1):Int)).toNat (IntKind.bits .i64)))-1))).bind fun r12=>(bif (!r12)then(some (Sum.inr false))else(bif ((wI (bO v9.Bare&&&bO v9.Members).toNat) != v9.Bare)then(some (Sum.inr false))else(bif (decide (y3>0))then((idx x0.Rows (wI (y3-1))).bind fun v13=>(bif (decide (v13.Id≥v9.Id))then(some (Sum.inr false))else(ZV n mo8 x0 x1 (wI (y3+1)))))else(ZV n mo8 x0 x1 (wI (y3+1))))))))))))else(some (Sum.inl ())))
def qN(n:Nat)(x0:zm)(x1:Int):Option (Bool):=
  ((ze n x1 1 6).bind fun r1=>(bif (!r1)then(some false)else(bif ((x0.Pv.length:Int) != x1)then(some false)else(bif (decide ((x0.Rows.length:Int)>6))then(some false)else(bif (decide ((0:Int)≤(IntKind.wrap .u64 x1)))then((ZV n n x0 x1 0).bind fun o=>match o with|.inl _=>(JD n x0)|.inr r=>some r)else none)))))
def zTP:Tab:=⟨44,[0,1,2,4,12,16,48,16,208,272,528,1280,2048,6144,2048,26624,34816,67584,163840,262144,786432,262144,2359296,5505024,262144,17039360,42205184,67371008,134479872,268435456,805306368,1342177280,2147483648,6442450944,2147483648,19327352832,45097156608,70866960384,139586437120,2147483648,551903297536,1376537018368,2201439174656,4398314946560],[0,1,2,4,8,16,48,16,208,272,528,1024,2048,6144,2048,26624,34816,67584,131072,262144,786432,262144,2359296,5505024,262144,17039360,42205184,67371008,134217728,268435456,805306368,1342177280,2147483648,6442450944,2147483648,19327352832,45097156608,70866960384,139586437120,2147483648,551903297536,1376537018368,2201439174656,4398314946560],[0,1,3,7,15,31,63,31,255,511,1023,2047,4095,8191,4095,32767,65535,131071,262143,524287,1048575,524287,2621439,8388607,524287,17301503,67108863,134217727,268435455,536870911,1073741823,2147483647,4294967295,8589934591,4294967295,21474836479,68719476735,137438953471,274877906943,4294967295,554050781183,2199023255551,4398046511103,8796093022207]⟩
theorem qW:qb (rg Tryz.f151 8) zTP=true:=kr
theorem zLQ(n:Nat)(y3:Int)(v9:zX)(x1:Int)(x0:zm)(h11:(decide (y3>0))=false)(cx:Cx):AT Tryz.prog cx (rg Tryz.f151 8) [⟨[],3,65,66⟩,⟨[],3,62,63⟩,⟨[],3,60,61⟩,⟨[15],3,53,54⟩,⟨[8,15],3,46,47⟩,⟨[2,8,15],3,41,42⟩] 15 [28,27,26,25,24,23,22,21,20,19,18,17,16,15,14,13,12,11,10,9,8,7,6,5,4,3,2,1,0] ⟨100,0,[sB 69 false,sI 66 v9.Bare,sA 65 7 3 2,sI 63 v9.Members,sA 62 7 3 1,sI 61 v9.Bare,sA 60 7 3 2,sI 54 v9.Bare,sA 53 7 3 2,sI 47 v9.Members,sA 46 7 3 1,sI 42 v9.Id,sA 41 7 3 0,sA 7 7 3 0,sI 6 y3,sI 5 (wI ((wI (1*2^min (((IntKind.wrap .u64 x1):Int)).toNat (IntKind.bits .i64)))-1)),sA 2 2 2 0],[(7,(zF v9)),(2,(fR (zc x0)))]⟩ (fun s=>s=⟨100,0,[sB 84 false,sI 6 y3,sI 5 (wI ((wI (1*2^min (((IntKind.wrap .u64 x1):Int)).toNat (IntKind.bits .i64)))-1)),sA 2 2 2 0],[(2,(fR (zc x0)))]⟩):=by
 exact mA qW (zl [29,30,31]) 12 [⟨[],3,65,66⟩,⟨[],3,62,63⟩,⟨[],3,60,61⟩,⟨[15],3,53,54⟩,⟨[8,15],3,46,47⟩,⟨[2,8,15],3,41,42⟩] fun cx=>qA 0x126f060c600000000e4 132 [72] h11<|mA qW (zl [32,33,34,35,36,37,38,39,40,41,42,43]) 0 [⟨[],3,65,66⟩,⟨[],3,62,63⟩,⟨[],3,60,61⟩,⟨[15],3,53,54⟩,⟨[8,15],3,46,47⟩,⟨[2,8,15],3,41,42⟩] fun cx=>mE qW [84,6,5,2] [2]
theorem zLR(n:Nat)(y3:Int)(v9:zX)(x1:Int)(x0:zm)(v13:zX)(h11:(decide (y3>0))=true)(ev13:(idx x0.Rows (wI (y3-1)))=some v13)(cx:Cx):AT Tryz.prog cx (rg Tryz.f151 8) [⟨[],3,65,66⟩,⟨[],3,62,63⟩,⟨[],3,60,61⟩,⟨[15],3,53,54⟩,⟨[8,15],3,46,47⟩,⟨[2,8,15],3,41,42⟩] 15 [28,27,26,25,24,23,22,21,20,19,18,17,16,15,14,13,12,11,10,9,8,7,6,5,4,3,2,1,0] ⟨100,0,[sB 69 false,sI 66 v9.Bare,sA 65 7 3 2,sI 63 v9.Members,sA 62 7 3 1,sI 61 v9.Bare,sA 60 7 3 2,sI 54 v9.Bare,sA 53 7 3 2,sI 47 v9.Members,sA 46 7 3 1,sI 42 v9.Id,sA 41 7 3 0,sA 7 7 3 0,sI 6 y3,sI 5 (wI ((wI (1*2^min (((IntKind.wrap .u64 x1):Int)).toNat (IntKind.bits .i64)))-1)),sA 2 2 2 0],[(7,(zF v9)),(2,(fR (zc x0)))]⟩ (fun s=>s=⟨100,0,[sB 84 (decide (v13.Id≥v9.Id)),sI 6 y3,sI 5 (wI ((wI (1*2^min (((IntKind.wrap .u64 x1):Int)).toNat (IntKind.bits .i64)))-1)),sA 2 2 2 0],[(2,(fR (zc x0)))]⟩):=by
 exact mA qW (zl [29,30,31]) 12 [⟨[],3,65,66⟩,⟨[],3,62,63⟩,⟨[],3,60,61⟩,⟨[15],3,53,54⟩,⟨[8,15],3,46,47⟩,⟨[2,8,15],3,41,42⟩] fun cx=>qA 0x126f060c600000000e4 132 [72] h11<|mA qW (zl [32,33,34,35]) 8 [⟨[],60,73,74⟩,⟨[],3,65,66⟩,⟨[],3,62,63⟩,⟨[],3,60,61⟩,⟨[15],3,53,54⟩,⟨[8,15],3,46,47⟩,⟨[2,8,15],3,41,42⟩] fun cx=>iN qW 36 zF ev13 fun cx=>mA qW (zl [37,38,39,40,41,42,43]) 0 [⟨[],3,80,81⟩,⟨[],60,73,74⟩,⟨[],3,65,66⟩,⟨[],3,62,63⟩,⟨[],3,60,61⟩,⟨[15],3,53,54⟩,⟨[8,15],3,46,47⟩,⟨[2,8,15],3,41,42⟩] fun cx=>mE qW [84,6,5,2] [2]
theorem zLS(n:Nat)(v9:zX)(y3:Int)(x1:Int)(x0:zm)(cx:Cx):AT Tryz.prog cx (rg Tryz.f151 8) [⟨[],3,65,66⟩,⟨[],3,62,63⟩,⟨[],3,60,61⟩,⟨[15],3,53,54⟩,⟨[8,15],3,46,47⟩,⟨[2,8,15],3,41,42⟩] 15 [28,27,26,25,24,23,22,21,20,19,18,17,16,15,14,13,12,11,10,9,8,7,6,5,4,3,2,1,0] ⟨100,0,[sB 69 true,sI 66 v9.Bare,sA 65 7 3 2,sI 63 v9.Members,sA 62 7 3 1,sI 61 v9.Bare,sA 60 7 3 2,sI 54 v9.Bare,sA 53 7 3 2,sI 47 v9.Members,sA 46 7 3 1,sI 42 v9.Id,sA 41 7 3 0,sA 7 7 3 0,sI 6 y3,sI 5 (wI ((wI (1*2^min (((IntKind.wrap .u64 x1):Int)).toNat (IntKind.bits .i64)))-1)),sA 2 2 2 0],[(7,(zF v9)),(2,(fR (zc x0)))]⟩ (fun s=>s=⟨100,0,[sB 84 true,sI 6 y3,sI 5 (wI ((wI (1*2^min (((IntKind.wrap .u64 x1):Int)).toNat (IntKind.bits .i64)))-1)),sA 2 2 2 0],[(2,(fR (zc x0)))]⟩):=by
 exact mA qW (zl [29,30,31,32,33,34,35,36,37,38,39,40,41,42,43]) 0 [⟨[],3,65,66⟩,⟨[],3,62,63⟩,⟨[],3,60,61⟩,⟨[15],3,53,54⟩,⟨[8,15],3,46,47⟩,⟨[2,8,15],3,41,42⟩] fun cx=>mE qW [84,6,5,2] [2]
theorem zD0(n:Nat)(x0:zm)(x1:Int)(r:Bool)(H:qN n x0 x1=some r):zb Tryz.prog 151 [.val true (fR (zc x0)),.val false [.lit (.int .i64 x1)]] [.val false [.lit (.bool r)]] []:=by
 refine cW Tryz.func151 (fun g d=>sl [g 0,sl [g 1] (cn 24 (sl [g 2] .ret) .skip),g 3,sl [g 4] (.block 0 (.loop (sl [sl [g 5] (cn 33 .skip (.exit 0)),.block 1 (sl [g 7,d 8] (cn 84 (sl [g 9] .ret) .skip))] (g 6)))),sl [g 10] (.block 2 (.loop (sl [sl [g 11] (cn 89 .skip (.exit 2)),.block 3 (sl [d 13] (cn 99 (sl [g 14] .ret) .skip))] (g 12)))),g 15] .ret) [.tmp 4] fun cx=>?_
 unfold qN at H
 refine gA 2 6 4<|tS<|rA 1<|bE H fun r1 er1 H=>vA [.rd,.rd,.rd] (zf n x1 1 6 r1 er1)<|lA 2 ?_
 obtain⟨h1,H⟩|⟨h1,H⟩:=bC H
 ·refine qL 4102 4 [12] h1<|lA 2<|kF x0.Pv zC<|lA 4 ?_
  obtain⟨h2,H⟩|⟨h2,H⟩:=bC H
  ·refine qL 524294 4 [19] h2<|lA 2<|kF x0.Rows zF<|uA 2 16777222 4 ?_
   obtain⟨h3,H⟩|⟨h3,H⟩:=bC H
   ·refine nA h3<|tK<|rA 2<|gE H fun hg2 H=>Ym tOk (op:=.shl) (t:=3) (ty:=133) (ty':=3) (x:=(.const (.int .i64 1))) (y:=(.tmp 26)) (d:=27) (g:=none) (.int .i64 1) (.int .u64 (IntKind.wrap .u64 x1)) (.int .i64 (wI (1*2^min (((IntKind.wrap .u64 x1):Int)).toNat (IntKind.bits .i64)))) _ kr kr kr kr kr (φ:=(0:Int)≤(IntKind.wrap .u64 x1)) kr (of_decide_eq_true hg2) rfl<|uA 2 36 4<|tS<|gA 1 100 4 ?_
    obtain⟨o8,eo8,Ho8⟩:=bs H
    clear H
    refine zt (ι:=Unit) (fun v=>⟨100,0,[sA 2 2 2 0],[(2,(fR (zc x0)))]⟩) (fun v=>JD n x0=some r) ?_ ?_
    ·refine tB<|Tr.loop (ι:=Nat×(Int)) (fun v=>⟨100,0,[sI 6 v.2,sI 5 (wI ((wI (1*2^min (((IntKind.wrap .u64 x1):Int)).toNat (IntKind.bits .i64)))-1)),sA 2 2 2 0],[(2,(fR (zc x0)))]⟩) (fun v=>ZV n v.1 x0 x1 v.2=some o8) (fun v=>v.1) (n,0) eo8 (za [6,5,2] [2] kr) ?_
     rintro⟨_|mo8,y3⟩ H
     ·exact nN H
     have H:ZV n (mo8+1) x0 x1 y3=some o8:=H
     rw[ZV]at H
     refine tS<|rA 3<|kF x0.Rows zF<|uA 1 8589934692 4 ?_
     obtain⟨h6,H⟩|⟨h6,H⟩:=bC H
     ·refine nA h6<|Tr.exit<|aJ ?_
      cases H
      exact jA () Ho8 [2] [2]
     refine tA h6<|tK<|tS<|tB<|rA 3<|bE H fun v9 ev9 H=>iA zF ev9<|uA 3 228 132<|bE H fun r10 er10 H=>sT ⟨100,0,[sA 7 7 3 0,sI 6 y3,sI 5 (wI ((wI (1*2^min (((IntKind.wrap .u64 x1):Int)).toNat (IntKind.bits .i64)))-1)),sA 2 2 2 0],[(7,(zF v9)),(2,(fR (zc x0)))]⟩ ?_
     cases h7:(!r10)
     ·have H:=YA h7 H
      refine bE H fun r11 er11 H=>sT ⟨100,0,[sA 7 7 3 0,sI 6 y3,sI 5 (wI ((wI (1*2^min (((IntKind.wrap .u64 x1):Int)).toNat (IntKind.bits .i64)))-1)),sA 2 2 2 0],[(7,(zF v9)),(2,(fR (zc x0)))]⟩ ?_
      cases h8:(!r11)
      ·have H:=YA h8 H
       refine bE H fun r12 er12 H=>sT ⟨100,0,[sA 7 7 3 0,sI 6 y3,sI 5 (wI ((wI (1*2^min (((IntKind.wrap .u64 x1):Int)).toNat (IntKind.bits .i64)))-1)),sA 2 2 2 0],[(7,(zF v9)),(2,(fR (zc x0)))]⟩ ?_
       cases h9:(!r12)
       ·have H:=YA h9 H
        refine sT ⟨100,0,[sA 7 7 3 0,sI 6 y3,sI 5 (wI ((wI (1*2^min (((IntKind.wrap .u64 x1):Int)).toNat (IntKind.bits .i64)))-1)),sA 2 2 2 0],[(7,(zF v9)),(2,(fR (zc x0)))]⟩ ?_
        cases h10:((wI (bO v9.Bare&&&bO v9.Members).toNat) != v9.Bare)
        ·have H:=YA h10 H
         refine sT ⟨100,0,[sA 7 7 3 0,sI 6 y3,sI 5 (wI ((wI (1*2^min (((IntKind.wrap .u64 x1):Int)).toNat (IntKind.bits .i64)))-1)),sA 2 2 2 0],[(7,(zF v9)),(2,(fR (zc x0)))]⟩ ?_
         cases h11:(decide (y3>0))
         ·have H:=YA h11 H
          refine zd zr 44 kr ⟨100,0,[sB 84 false,sI 6 y3,sI 5 (wI ((wI (1*2^min (((IntKind.wrap .u64 x1):Int)).toNat (IntKind.bits .i64)))-1)),sA 2 2 2 0],[(2,(fR (zc x0)))]⟩ (fun cx=>?_) ?_
          ·refine mA qW [(0,[]),(1,[2,8,15])] 42 [⟨[2,8,15],3,41,42⟩] fun cx=>mC qW 2<|vA [.rd,.rd,.rd] (zf n v9.Id 1 99 r10 er10)<|fA<|mA qW [(3,[]),(4,[])] 39 [⟨[2,8,15],3,41,42⟩] fun cx=>qA 41781441855716 132 [45] h7<|mA qW [(5,[]),(6,[8,15]),(7,[])] 36 [⟨[8,15],3,46,47⟩,⟨[2,8,15],3,41,42⟩] fun cx=>mC qW 8<|vA [.rd,.rd,.rd] (zf n v9.Members 0 (wI ((wI (1*2^min (((IntKind.wrap .u64 x1):Int)).toNat (IntKind.bits .i64)))-1)) r11 er11)<|fA<|mA qW (zl [9,10,11]) 32 [⟨[8,15],3,46,47⟩,⟨[2,8,15],3,41,42⟩] fun cx=>qA 4721302929670372 132 [52] h8<|mA qW [(12,[]),(13,[15]),(14,[])] 29 [⟨[15],3,53,54⟩,⟨[8,15],3,46,47⟩,⟨[2,8,15],3,41,42⟩] fun cx=>mC qW 15<|vA [.rd,.rd,.rd] (zf n v9.Bare 0 (wI ((wI (1*2^min (((IntKind.wrap .u64 x1):Int)).toNat (IntKind.bits .i64)))-1)) r12 er12)<|fA<|mA qW (zl [16,17,18]) 25 [⟨[15],3,53,54⟩,⟨[8,15],3,46,47⟩,⟨[2,8,15],3,41,42⟩] fun cx=>qA 0x860c600000000e4 132 [59] h9<|mA qW (zl [19,20,21,22,23,24,25,26,27,28]) 15 [⟨[],3,65,66⟩,⟨[],3,62,63⟩,⟨[],3,60,61⟩,⟨[15],3,53,54⟩,⟨[8,15],3,46,47⟩,⟨[2,8,15],3,41,42⟩] fun cx=>sA_ 0x26f060c600000000e4 132 ⟨100,0,[sB 69 ((wI (bO v9.Bare&&&bO v9.Members).toNat) != v9.Bare),sI 66 v9.Bare,sA 65 7 3 2,sI 63 v9.Members,sA 62 7 3 1,sI 61 v9.Bare,sA 60 7 3 2,sI 54 v9.Bare,sA 53 7 3 2,sI 47 v9.Members,sA 46 7 3 1,sI 42 v9.Id,sA 41 7 3 0,sA 7 7 3 0,sI 6 y3,sI 5 (wI ((wI (1*2^min (((IntKind.wrap .u64 x1):Int)).toNat (IntKind.bits .i64)))-1)),sA 2 2 2 0],[(7,(zF v9)),(2,(fR (zc x0)))]⟩ ?_
           rw[h10]
           exact zLQ n y3 v9 x1 x0 h11 cx
          exact nB_<|tK<|eA 3 100 4<|jB mo8 (wI (y3+1)) H [6,5,2] [2]
         have H:=YB h11 H
         refine bE H fun v13 ev13 H=>zd zr 44 kr ⟨100,0,[sB 84 (decide (v13.Id≥v9.Id)),sI 6 y3,sI 5 (wI ((wI (1*2^min (((IntKind.wrap .u64 x1):Int)).toNat (IntKind.bits .i64)))-1)),sA 2 2 2 0],[(2,(fR (zc x0)))]⟩ (fun cx=>?_) ?_
         ·refine mA qW [(0,[]),(1,[2,8,15])] 42 [⟨[2,8,15],3,41,42⟩] fun cx=>mC qW 2<|vA [.rd,.rd,.rd] (zf n v9.Id 1 99 r10 er10)<|fA<|mA qW [(3,[]),(4,[])] 39 [⟨[2,8,15],3,41,42⟩] fun cx=>qA 41781441855716 132 [45] h7<|mA qW [(5,[]),(6,[8,15]),(7,[])] 36 [⟨[8,15],3,46,47⟩,⟨[2,8,15],3,41,42⟩] fun cx=>mC qW 8<|vA [.rd,.rd,.rd] (zf n v9.Members 0 (wI ((wI (1*2^min (((IntKind.wrap .u64 x1):Int)).toNat (IntKind.bits .i64)))-1)) r11 er11)<|fA<|mA qW (zl [9,10,11]) 32 [⟨[8,15],3,46,47⟩,⟨[2,8,15],3,41,42⟩] fun cx=>qA 4721302929670372 132 [52] h8<|mA qW [(12,[]),(13,[15]),(14,[])] 29 [⟨[15],3,53,54⟩,⟨[8,15],3,46,47⟩,⟨[2,8,15],3,41,42⟩] fun cx=>mC qW 15<|vA [.rd,.rd,.rd] (zf n v9.Bare 0 (wI ((wI (1*2^min (((IntKind.wrap .u64 x1):Int)).toNat (IntKind.bits .i64)))-1)) r12 er12)<|fA<|mA qW (zl [16,17,18]) 25 [⟨[15],3,53,54⟩,⟨[8,15],3,46,47⟩,⟨[2,8,15],3,41,42⟩] fun cx=>qA 0x860c600000000e4 132 [59] h9<|mA qW (zl [19,20,21,22,23,24,25,26,27,28]) 15 [⟨[],3,65,66⟩,⟨[],3,62,63⟩,⟨[],3,60,61⟩,⟨[15],3,53,54⟩,⟨[8,15],3,46,47⟩,⟨[2,8,15],3,41,42⟩] fun cx=>sA_ 0x26f060c600000000e4 132 ⟨100,0,[sB 69 ((wI (bO v9.Bare&&&bO v9.Members).toNat) != v9.Bare),sI 66 v9.Bare,sA 65 7 3 2,sI 63 v9.Members,sA 62 7 3 1,sI 61 v9.Bare,sA 60 7 3 2,sI 54 v9.Bare,sA 53 7 3 2,sI 47 v9.Members,sA 46 7 3 1,sI 42 v9.Id,sA 41 7 3 0,sA 7 7 3 0,sI 6 y3,sI 5 (wI ((wI (1*2^min (((IntKind.wrap .u64 x1):Int)).toNat (IntKind.bits .i64)))-1)),sA 2 2 2 0],[(7,(zF v9)),(2,(fR (zc x0)))]⟩ ?_
          rw[h10]
          exact zLR n y3 v9 x1 x0 v13 h11 ev13 cx
         obtain⟨h12,H⟩|⟨h12,H⟩:=bC H
         ·exact qT [84] h12<|nB_<|tK<|eA 3 100 4<|jB mo8 (wI (y3+1)) H [6,5,2] [2]
         refine qT [84] h12<|tB_<|gA 1 16 0<|te ?_
         cases H
         exact fF Ho8
        have H:=YB h10 H
        refine zd zr 44 kr ⟨100,0,[sB 84 true,sI 6 y3,sI 5 (wI ((wI (1*2^min (((IntKind.wrap .u64 x1):Int)).toNat (IntKind.bits .i64)))-1)),sA 2 2 2 0],[(2,(fR (zc x0)))]⟩ (fun cx=>?_) ?_
        ·refine mA qW [(0,[]),(1,[2,8,15])] 42 [⟨[2,8,15],3,41,42⟩] fun cx=>mC qW 2<|vA [.rd,.rd,.rd] (zf n v9.Id 1 99 r10 er10)<|fA<|mA qW [(3,[]),(4,[])] 39 [⟨[2,8,15],3,41,42⟩] fun cx=>qA 41781441855716 132 [45] h7<|mA qW [(5,[]),(6,[8,15]),(7,[])] 36 [⟨[8,15],3,46,47⟩,⟨[2,8,15],3,41,42⟩] fun cx=>mC qW 8<|vA [.rd,.rd,.rd] (zf n v9.Members 0 (wI ((wI (1*2^min (((IntKind.wrap .u64 x1):Int)).toNat (IntKind.bits .i64)))-1)) r11 er11)<|fA<|mA qW (zl [9,10,11]) 32 [⟨[8,15],3,46,47⟩,⟨[2,8,15],3,41,42⟩] fun cx=>qA 4721302929670372 132 [52] h8<|mA qW [(12,[]),(13,[15]),(14,[])] 29 [⟨[15],3,53,54⟩,⟨[8,15],3,46,47⟩,⟨[2,8,15],3,41,42⟩] fun cx=>mC qW 15<|vA [.rd,.rd,.rd] (zf n v9.Bare 0 (wI ((wI (1*2^min (((IntKind.wrap .u64 x1):Int)).toNat (IntKind.bits .i64)))-1)) r12 er12)<|fA<|mA qW (zl [16,17,18]) 25 [⟨[15],3,53,54⟩,⟨[8,15],3,46,47⟩,⟨[2,8,15],3,41,42⟩] fun cx=>qA 0x860c600000000e4 132 [59] h9<|mA qW (zl [19,20,21,22,23,24,25,26,27,28]) 15 [⟨[],3,65,66⟩,⟨[],3,62,63⟩,⟨[],3,60,61⟩,⟨[15],3,53,54⟩,⟨[8,15],3,46,47⟩,⟨[2,8,15],3,41,42⟩] fun cx=>sA_ 0x26f060c600000000e4 132 ⟨100,0,[sB 69 ((wI (bO v9.Bare&&&bO v9.Members).toNat) != v9.Bare),sI 66 v9.Bare,sA 65 7 3 2,sI 63 v9.Members,sA 62 7 3 1,sI 61 v9.Bare,sA 60 7 3 2,sI 54 v9.Bare,sA 53 7 3 2,sI 47 v9.Members,sA 46 7 3 1,sI 42 v9.Id,sA 41 7 3 0,sA 7 7 3 0,sI 6 y3,sI 5 (wI ((wI (1*2^min (((IntKind.wrap .u64 x1):Int)).toNat (IntKind.bits .i64)))-1)),sA 2 2 2 0],[(7,(zF v9)),(2,(fR (zc x0)))]⟩ ?_
         rw[h10]
         exact zLS n v9 y3 x1 x0 cx
        refine tB_<|gA 1 16 0<|te ?_
        cases H
        exact fF Ho8
       have H:=YB h9 H
       refine zd zr 44 kr ⟨100,0,[sB 84 true,sI 6 y3,sI 5 (wI ((wI (1*2^min (((IntKind.wrap .u64 x1):Int)).toNat (IntKind.bits .i64)))-1)),sA 2 2 2 0],[(2,(fR (zc x0)))]⟩ (fun cx=>?_) ?_
       ·exact mA qW [(0,[]),(1,[2,8,15])] 42 [⟨[2,8,15],3,41,42⟩] fun cx=>mC qW 2<|vA [.rd,.rd,.rd] (zf n v9.Id 1 99 r10 er10)<|fA<|mA qW [(3,[]),(4,[])] 39 [⟨[2,8,15],3,41,42⟩] fun cx=>qA 41781441855716 132 [45] h7<|mA qW [(5,[]),(6,[8,15]),(7,[])] 36 [⟨[8,15],3,46,47⟩,⟨[2,8,15],3,41,42⟩] fun cx=>mC qW 8<|vA [.rd,.rd,.rd] (zf n v9.Members 0 (wI ((wI (1*2^min (((IntKind.wrap .u64 x1):Int)).toNat (IntKind.bits .i64)))-1)) r11 er11)<|fA<|mA qW (zl [9,10,11]) 32 [⟨[8,15],3,46,47⟩,⟨[2,8,15],3,41,42⟩] fun cx=>qA 4721302929670372 132 [52] h8<|mA qW [(12,[]),(13,[15]),(14,[])] 29 [⟨[15],3,53,54⟩,⟨[8,15],3,46,47⟩,⟨[2,8,15],3,41,42⟩] fun cx=>mC qW 15<|vA [.rd,.rd,.rd] (zf n v9.Bare 0 (wI ((wI (1*2^min (((IntKind.wrap .u64 x1):Int)).toNat (IntKind.bits .i64)))-1)) r12 er12)<|fA<|mA qW (zl [16,17,18]) 25 [⟨[15],3,53,54⟩,⟨[8,15],3,46,47⟩,⟨[2,8,15],3,41,42⟩] fun cx=>qA 0x860c600000000e4 132 [59] h9<|mA qW (zl [19,20,21,22,23,24,25,26,27,28,29,30,31,32,33,34,35,36,37,38,39,40,41,42,43]) 0 [⟨[15],3,53,54⟩,⟨[8,15],3,46,47⟩,⟨[2,8,15],3,41,42⟩] fun cx=>mE qW [84,6,5,2] [2]
       refine tB_<|gA 1 16 0<|te ?_
       cases H
       exact fF Ho8
      have H:=YB h8 H
      refine zd zr 44 kr ⟨100,0,[sB 84 true,sI 6 y3,sI 5 (wI ((wI (1*2^min (((IntKind.wrap .u64 x1):Int)).toNat (IntKind.bits .i64)))-1)),sA 2 2 2 0],[(2,(fR (zc x0)))]⟩ (fun cx=>?_) ?_
      ·exact mA qW [(0,[]),(1,[2,8])] 42 [⟨[2,8],3,41,42⟩] fun cx=>mC qW 2<|vA [.rd,.rd,.rd] (zf n v9.Id 1 99 r10 er10)<|fA<|mA qW [(3,[]),(4,[])] 39 [⟨[2,8],3,41,42⟩] fun cx=>qA 41781441855716 132 [45] h7<|mA qW [(5,[]),(6,[8]),(7,[])] 36 [⟨[8],3,46,47⟩,⟨[2,8],3,41,42⟩] fun cx=>mC qW 8<|vA [.rd,.rd,.rd] (zf n v9.Members 0 (wI ((wI (1*2^min (((IntKind.wrap .u64 x1):Int)).toNat (IntKind.bits .i64)))-1)) r11 er11)<|fA<|mA qW (zl [9,10,11]) 32 [⟨[8],3,46,47⟩,⟨[2,8],3,41,42⟩] fun cx=>qA 4721302929670372 132 [52] h8<|mA qW (zl [12,13,14,15,16,17,18,19,20,21,22,23,24,25,26,27,28,29,30,31,32,33,34,35,36,37,38,39,40,41,42,43]) 0 [⟨[8],3,46,47⟩,⟨[2,8],3,41,42⟩] fun cx=>mE qW [84,6,5,2] [2]
      refine tB_<|gA 1 16 0<|te ?_
      cases H
      exact fF Ho8
     have H:=YB h7 H
     refine zd zr 44 kr ⟨100,0,[sB 84 true,sI 6 y3,sI 5 (wI ((wI (1*2^min (((IntKind.wrap .u64 x1):Int)).toNat (IntKind.bits .i64)))-1)),sA 2 2 2 0],[(2,(fR (zc x0)))]⟩ (fun cx=>?_) ?_
     ·exact mA qW [(0,[]),(1,[2])] 42 [⟨[2],3,41,42⟩] fun cx=>mC qW 2<|vA [.rd,.rd,.rd] (zf n v9.Id 1 99 r10 er10)<|fA<|mA qW [(3,[]),(4,[])] 39 [⟨[2],3,41,42⟩] fun cx=>qA 41781441855716 132 [45] h7<|mA qW (zl [5,6,7,8,9,10,11,12,13,14,15,16,17,18,19,20,21,22,23,24,25,26,27,28,29,30,31,32,33,34,35,36,37,38,39,40,41,42,43]) 0 [⟨[2],3,41,42⟩] fun cx=>mE qW [84,6,5,2] [2]
     refine tB_<|gA 1 16 0<|te ?_
     cases H
     exact fF Ho8
    rintro _ H
    have H:(JD n x0)=some r:=H
    unfold JD at H
    refine tS<|gA 1 260 4 ?_
    obtain⟨o5,eo5,Ho5⟩:=bs H
    clear H
    refine zt (ι:=Unit) (fun v=>⟨100,0,[],[]⟩) (fun v=>zCt n=some r) ?_ ?_
    ·refine tB<|Tr.loop (ι:=Nat×(Int)) (fun v=>⟨100,0,[sI 8 v.2,sA 2 2 2 0],[(2,(fR (zc x0)))]⟩) (fun v=>Zi n v.1 x0 v.2=some o5) (fun v=>v.1) (n,0) eo5 (za [8,2] [2] kr) ?_
     rintro⟨_|mo5,y4⟩ H
     ·exact nN H
     have H:Zi n (mo5+1) x0 y4=some o5:=H
     rw[Zi]at H
     refine tS<|rA 3<|kF x0.Pv zC<|uA 1 0x20000000000000000000104 4 ?_
     obtain⟨h4,H⟩|⟨h4,H⟩:=bC H
     ·refine nA h4<|Tr.exit<|aJ ?_
      cases H
      exact jA () Ho5 [] []
     refine tA h4<|tK<|tS<|tB<|bE H fun v6 ev6 H=>bE H fun r7 er7 H=>zd zr 8 kr ⟨100,0,[sB 99 (decide (r7<0)),sI 8 y4,sA 2 2 2 0],[(2,(fR (zc x0)))]⟩ (fun cx=>?_) ?_
     ·refine aA [(0,[6]),(1,[]),(2,[6]),(3,[])] 4 [⟨[6],30,93,94⟩,⟨[6],62,2,92⟩] fun cx=>aI tOk 4 30 0 94 95 96 none ⟨(.box 2),[(0,0)],1,false,1,(zQ (x0.Pv.map zC))⟩ y4 [cI v6] _ kr kr kr kr kr kr rfl (zCa ev6) rfl (fun cx=>?_)
      exact aA [(5,[])] 2 [⟨[6],30,93,94⟩,⟨[6],62,2,92⟩] fun cx=>bA 6<|vA [.rd,.rd] (zMI n x0 v6 r7 er7)<|fA<|aA [(7,[])] 0 [⟨[6],30,93,94⟩,⟨[6],62,2,92⟩] fun cx=>eE [99,8,2] [2]
     obtain⟨h5,H⟩|⟨h5,H⟩:=bC H
     ·exact qT [99] h5<|nB_<|tK<|eA 3 260 4<|jB mo5 (wI (y4+1)) H [8,2] [2]
     refine qT [99] h5<|tB_<|gA 1 16 0<|te ?_
     cases H
     exact fF Ho5
    rintro _ H
    have H:(zCt n)=some r:=H
    unfold zCt at H
    exact gA 1 16 0<|te (fT H)
   exact tA h3<|gA 1 16 0<|te (fF H)
  exact qL 524294 4 [19] h2<|uA 5 16777222 4<|tB_<|gA 1 16 0<|te (fF H)
 exact qL 4102 4 [12] h1<|uA 12 16777222 4<|tB_<|gA 1 16 0<|te (fF H)
def JQ(n:Nat)(x0:zA):Option (Bool):=
  ((ze n x0.Tk 0 1000000).bind fun r1=>(bif r1 then((ze n x0.Pa 0 1000000).bind fun r2=>(bif r2 then((ze n x0.Wo 0 1000000).bind fun r3=>(bif r3 then((ze n x0.Dr 0 1000000).bind fun r4=>(bif r4 then((ze n x0.Ve 0 1000000).bind fun r5=>(some r5))else(some false)))else(some false)))else(some false)))else(some false)))
theorem zLT(n:Nat)(x0:zA)(r:Bool)(H:JQ n x0=some r):zb Tryz.prog 152 [.val true (fR (zB x0))] [.val false [.lit (.bool r)]] []:=by
 refine cW Tryz.func152 (fun g d=>sl [g 0,g 1] .ret) [.tmp 2] fun cx=>?_
 unfold JQ at H
 refine gA 2 2 2<|rA 2<|bE H fun r1 er1 H=>vA [.rd,.rd,.rd] (zf n x0.Tk 0 1000000 r1 er1)<|lA 1 ?_
 obtain⟨h1,H⟩|⟨h1,H⟩:=bC H
 ·exact qL 66 2 [6] h1<|uA 20 4 0<|te (fF H)
 refine qL 66 2 [6] h1<|lA 2<|bE H fun r2 er2 H=>vA [.rd,.rd,.rd] (zf n x0.Pa 0 1000000 r2 er2)<|lA 2 ?_
 obtain⟨h2,H⟩|⟨h2,H⟩:=bC H
 ·exact qL 2050 2 [11] h2<|uA 15 4 0<|te (fF H)
 refine qL 2050 2 [11] h2<|lA 2<|bE H fun r3 er3 H=>vA [.rd,.rd,.rd] (zf n x0.Wo 0 1000000 r3 er3)<|lA 2 ?_
 obtain⟨h3,H⟩|⟨h3,H⟩:=bC H
 ·exact qL 65538 2 [16] h3<|uA 10 4 0<|te (fF H)
 refine qL 65538 2 [16] h3<|lA 2<|bE H fun r4 er4 H=>vA [.rd,.rd,.rd] (zf n x0.Dr 0 1000000 r4 er4)<|lA 2 ?_
 obtain⟨h4,H⟩|⟨h4,H⟩:=bC H
 ·exact qL 2097154 2 [21] h4<|uA 5 4 0<|te (fF H)
 exact qL 2097154 2 [21] h4<|lA 2<|bE H fun r5 er5 H=>vA [.rd,.rd,.rd] (zf n x0.Ve 0 1000000 r5 er5)<|uA 2 4 0<|te (fJ [(false,[cB r5])] H)
def YE(n:Nat)(x0:zA):Option (Bool):=
  ((ze n x0.Id 1 99).bind fun r2=>(bif r2 then(bif (decide ((x0.Name.size:Int)≤10))then((ze n (x0.Ps.length:Int) 1 6).bind fun r3=>(bif r3 then((Zr n x0.F).bind fun r4=>(bif r4 then((qN n x0.V (x0.Ps.length:Int)).bind fun r5=>(bif r5 then((JQ n x0).bind fun r6=>(some r6))else(some false)))else(some false)))else(some false)))else(some false))else(some false)))
def qJ(n:Nat):Nat→zA→Int→Option ((Unit)⊕(Bool))
  |0,_,_=>none
  |mo7+1,x0,y1=>(bif (decide (y1<(x0.Ps.length:Int)))then((idx x0.Ps y1).bind fun v8=>((qZ n v8).bind fun r9=>(bif (!r9)then(some (Sum.inr false))else(qJ n mo7 x0 (wI (y1+1))))))else(some (Sum.inl ())))
def zg(n:Nat)(x0:zA):Option (Bool):=
  ((qJ n n x0 0).bind fun o=>match o with|.inl _=>(YE n x0)|.inr r=>some r)
theorem zFj(n:Nat)(x0:zA)(r:Bool)(H:zg n x0=some r):zb Tryz.prog 117 [.val true (fR (zB x0))] [.val false [.lit (.bool r)]] []:=by
 refine cW Tryz.func117 (fun g d=>sl [g 0,sl [g 1] (.block 0 (.loop (sl [sl [g 2] (cn 8 .skip (.exit 0)),.block 1 (sl [g 4] (cn 17 (sl [g 5] .ret) .skip))] (g 3)))),g 6] .ret) [.tmp 2] fun cx=>?_
 unfold zg at H
 refine gA 2 2 2<|tS<|gA 1 10 2 ?_
 obtain⟨o7,eo7,Ho7⟩:=bs H
 clear H
 refine zt (ι:=Unit) (fun v=>⟨50,0,[sA 1 1 11 0],[(1,(fR (zB x0)))]⟩) (fun v=>YE n x0=some r) ?_ ?_
 ·refine tB<|Tr.loop (ι:=Nat×(Int)) (fun v=>⟨50,0,[sI 3 v.2,sA 1 1 11 0],[(1,(fR (zB x0)))]⟩) (fun v=>qJ n v.1 x0 v.2=some o7) (fun v=>v.1) (n,0) eo7 (za [3,1] [1] kr) ?_
  rintro⟨_|mo7,y1⟩ H
  ·exact nN H
  have H:qJ n (mo7+1) x0 y1=some o7:=H
  rw[qJ]at H
  refine tS<|rA 3<|kF x0.Ps zJ<|uA 1 266 2 ?_
  obtain⟨h6,H⟩|⟨h6,H⟩:=bC H
  ·refine nA h6<|Tr.exit<|aJ ?_
   cases H
   exact jA () Ho7 [1] [1]
  refine tA h6<|tK<|tS<|tB<|rA 3<|bE H fun v8 ev8 H=>iA zJ ev8<|lA 1<|bE H fun r9 er9 H=>vA [.rd] (zQ4 n v8 r9 er9)<|uA 1 131082 2 ?_
  obtain⟨h7,H⟩|⟨h7,H⟩:=bC H
  ·exact nA h7<|tK<|eA 3 10 2<|jB mo7 (wI (y1+1)) H [3,1] [1]
  refine tA h7<|gA 1 4 0<|te ?_
  cases H
  exact fF Ho7
 rintro _ H
 have H:(YE n x0)=some r:=H
 unfold YE at H
 refine rA 2<|bE H fun r2 er2 H=>vA [.rd,.rd,.rd] (zf n x0.Id 1 99 r2 er2)<|lA 1 ?_
 obtain⟨h1,H⟩|⟨h1,H⟩:=bC H
 ·exact qL 2097154 2 [21] h1<|uA 29 4 0<|te (fF H)
 refine qL 2097154 2 [21] h1<|lA 6 ?_
 obtain⟨h2,H⟩|⟨h2,H⟩:=bC H
 ·exact qL 134217730 2 [27] h2<|uA 23 4 0<|te (fF H)
 refine qL 134217730 2 [27] h2<|lA 2<|kF x0.Ps zJ<|bE H fun r3 er3 H=>vA [.rd,.rd,.rd] (zf n (x0.Ps.length:Int) 1 6 r3 er3)<|lA 2 ?_
 obtain⟨h3,H⟩|⟨h3,H⟩:=bC H
 ·exact qL 8589934594 2 [33] h3<|uA 17 4 0<|te (fF H)
 refine qL 8589934594 2 [33] h3<|lA 2<|bE H fun r4 er4 H=>vA [.rd] (zIZ n x0.F r4 er4)<|lA 2 ?_
 obtain⟨h4,H⟩|⟨h4,H⟩:=bC H
 ·exact qL 274877906946 2 [38] h4<|uA 12 4 0<|te (fF H)
 refine qL 274877906946 2 [38] h4<|lA 4<|kF x0.Ps zJ<|bE H fun r5 er5 H=>vA [.rd,.rd] (zD0 n x0.V (x0.Ps.length:Int) r5 er5)<|lA 2 ?_
 obtain⟨h5,H⟩|⟨h5,H⟩:=bC H
 ·exact qL 70368744177666 2 [46] h5<|uA 4 4 0<|te (fF H)
 exact qL 70368744177666 2 [46] h5<|lA 1<|bE H fun r6 er6 H=>vA [.rd] (zLT n x0 r6 er6)<|uA 2 4 0<|te (fJ [(false,[cB r6])] H)
def Y7(n:Nat)(x0:Net):Option (Bool):=
  ((ze n (x0.Bs.length:Int) 1 6).bind fun r2=>(some r2))
def Y9(n:Nat)(k:(Int→Option ((Unit)⊕(Bool))))(y1:Int):Option ((Unit)⊕(Bool)):=
  (k (wI (y1+1)))
def qv(n:Nat):Nat→Net→Int→Int→Option ((Unit)⊕(Bool))
  |0,_,_,_=>none
  |mo8+1,x0,y1,y7=>((idx x0.Bs y1).bind fun v9=>(bif (decide (y7<(v9.Ps.length:Int)))then((idx x0.Bs y1).bind fun v10=>((idx v10.Ps y7).bind fun v11=>(bif v11.Has then((Qo n x0 y1 y7).bind fun r12=>(bif (r12==0)then(some (Sum.inr false))else(qv n mo8 x0 y1 (wI (y7+1)))))else(qv n mo8 x0 y1 (wI (y7+1))))))else(some (Sum.inl ()))))
def Y8(n:Nat)(k:(Int→Option ((Unit)⊕(Bool))))(x0:Net)(y1:Int):Option ((Unit)⊕(Bool)):=
  ((qv n n x0 y1 0).bind fun o=>match o with|.inl _=>(Y9 n k y1)|.inr r=>some (Sum.inr r))
def ZG(n:Nat):Nat→Net→Int→Int→Option ((Unit)⊕(Bool))
  |0,_,_,_=>none
  |mo13+1,x0,y1,y6=>(bif (decide (y6<y1))then((idx x0.Bs y6).bind fun v14=>((idx x0.Bs y1).bind fun v15=>(bif (v14.Id==v15.Id)then(some (Sum.inr false))else(ZG n mo13 x0 y1 (wI (y6+1))))))else(some (Sum.inl ())))
def zz(n:Nat):Nat→Net→Int→Option ((Unit)⊕(Bool))
  |0,_,_=>none
  |mo3+1,x0,y1=>(bif (decide (y1<(x0.Bs.length:Int)))then((idx x0.Bs y1).bind fun v4=>((zg n v4).bind fun r5=>(bif (!r5)then(some (Sum.inr false))else((ZG n n x0 y1 0).bind fun o=>match o with|.inl _=>(Y8 n (fun v=>zz n mo3 x0 v) x0 y1)|.inr r=>some (Sum.inr r)))))else(some (Sum.inl ())))
def J4(n:Nat)(x0:Net):Option (Bool):=
  ((zz n n x0 0).bind fun o=>match o with|.inl _=>(Y7 n x0)|.inr r=>some r)
def zTH:Tab:=⟨13,[0,1,0,6,8,16,0,64,0,384,512,1024,2080],[0,1,0,6,8,16,0,64,0,384,512,1024,2080],[0,1,0,7,15,31,0,64,0,448,960,1984,4095]⟩
theorem zK5:qb (rg Tryz.f114 9) zTH=true:=kr
theorem zKw(n:Nat)(x0:Net)(r:Bool)(H:J4 n x0=some r):zb Tryz.prog 114 [.val true (fR (zD x0))] [.val false [.lit (.bool r)]] []:=by
 refine cW Tryz.func114 (fun g d=>sl [g 0,sl [g 1] (.block 0 (.loop (sl [sl [g 2] (cn 10 .skip (.exit 0)),.block 1 (sl [sl [g 4] (cn 19 (sl [g 5] .ret) .skip),sl [g 6] (.block 2 (.loop (sl [sl [g 7] (cn 22 .skip (.exit 2)),.block 3 (sl [d 9] (cn 37 (sl [g 10] .ret) .skip))] (g 8)))),g 11] (.block 4 (.loop (sl [sl [g 12] (cn 46 .skip (.exit 4)),.block 5 (sl [g 14] (cn 65 (sl [g 15] .ret) .skip))] (g 13)))))] (g 3)))),g 16] .ret) [.tmp 2] fun cx=>?_
 unfold J4 at H
 refine gA 2 2 2<|tS<|gA 1 10 2 ?_
 obtain⟨o3,eo3,Ho3⟩:=bs H
 clear H
 refine zt (ι:=Unit) (fun v=>⟨70,0,[sA 1 1 3 0],[(1,(fR (zD x0)))]⟩) (fun v=>Y7 n x0=some r) ?_ ?_
 ·refine tB<|Tr.loop (ι:=Nat×(Int)) (fun v=>⟨70,0,[sI 3 v.2,sA 1 1 3 0],[(1,(fR (zD x0)))]⟩) (fun v=>zz n v.1 x0 v.2=some o3) (fun v=>v.1) (n,0) eo3 (za [3,1] [1] kr) ?_
  rintro⟨_|mo3,y1⟩ H
  ·exact nN H
  have H:zz n (mo3+1) x0 y1=some o3:=H
  rw[zz]at H
  refine tS<|rA 3<|kF x0.Bs zB<|uA 1 1034 2 ?_
  obtain⟨h1,H⟩|⟨h1,H⟩:=bC H
  ·refine nA h1<|Tr.exit<|aJ ?_
   cases H
   exact jA () Ho3 [1] [1]
  refine tA h1<|tK<|tS<|tB<|tS<|rA 3<|bE H fun v4 ev4 H=>iA zB ev4<|lA 1<|bE H fun r5 er5 H=>vA [.rd] (zFj n v4 r5 er5)<|uA 1 524298 2 ?_
  obtain⟨h2,H⟩|⟨h2,H⟩:=bC H
  ·refine nA h2<|tK<|tS<|gA 1 26 2 ?_
   obtain⟨o13,eo13,Ho13⟩:=bs H
   clear H
   refine zt (ι:=Unit) (fun v=>⟨70,0,[sI 3 y1,sA 1 1 3 0],[(1,(fR (zD x0)))]⟩) (fun v=>Y8 n (fun v=>zz n mo3 x0 v) x0 y1=some o3) ?_ ?_
   ·refine tB<|Tr.loop (ι:=Nat×(Int)) (fun v=>⟨70,0,[sI 4 v.2,sI 3 y1,sA 1 1 3 0],[(1,(fR (zD x0)))]⟩) (fun v=>ZG n v.1 x0 y1 v.2=some o13) (fun v=>v.1) (n,0) eo13 (za [4,3,1] [1] kr) ?_
    rintro⟨_|mo13,y6⟩ H
    ·exact nN H
    have H:ZG n (mo13+1) x0 y1 y6=some o13:=H
    rw[ZG]at H
    refine tS<|gA 3 4194330 2 ?_
    obtain⟨h6,H⟩|⟨h6,H⟩:=bC H
    ·refine nA h6<|Tr.exit<|aJ ?_
     cases H
     exact jA () Ho13 [3,1] [1]
    refine tA h6<|tK<|tS<|tB<|bE H fun v14 ev14 H=>bE H fun v15 ev15 H=>zd zr 13 kr ⟨70,0,[sB 37 (v14.Id==v15.Id),sI 4 y6,sI 3 y1,sA 1 1 3 0],[(1,(fR (zD x0)))]⟩ (fun cx=>?_) ?_
    ·exact mA zK5 (zl [0,1,2]) 10 [⟨[],24,25,26⟩] fun cx=>iN zK5 3 zB ev14 fun cx=>mA zK5 (zl [4,5,6,7,8]) 4 [⟨[],24,31,32⟩,⟨[],24,25,26⟩] fun cx=>iN zK5 9 zB ev15 fun cx=>mA zK5 (zl [10,11,12]) 0 [⟨[],24,31,32⟩,⟨[],24,25,26⟩] fun cx=>mE zK5 [37,4,3,1] [1]
    obtain⟨h7,H⟩|⟨h7,H⟩:=bC H
    ·exact qT [37] h7<|nB_<|tK<|eA 3 26 2<|jB mo13 (wI (y6+1)) H [4,3,1] [1]
    refine qT [37] h7<|tB_<|gA 1 4 0<|te ?_
    obtain rfl:=si H
    have H:=Ho13
    dsimp only at H
    cases H
    exact fF Ho3
   rintro _ H
   have H:(Y8 n (fun v=>zz n mo3 x0 v) x0 y1)=some o3:=H
   unfold Y8 at H
   refine gA 1 42 2 ?_
   obtain⟨o8,eo8,Ho8⟩:=bs H
   clear H
   refine zt (ι:=Unit) (fun v=>⟨70,0,[sI 3 y1,sA 1 1 3 0],[(1,(fR (zD x0)))]⟩) (fun v=>Y9 n (fun v=>zz n mo3 x0 v) y1=some o3) ?_ ?_
   ·refine tB<|Tr.loop (ι:=Nat×(Int)) (fun v=>⟨70,0,[sI 5 v.2,sI 3 y1,sA 1 1 3 0],[(1,(fR (zD x0)))]⟩) (fun v=>qv n v.1 x0 y1 v.2=some o8) (fun v=>v.1) (n,0) eo8 (za [5,3,1] [1] kr) ?_
    rintro⟨_|mo8,y7⟩ H
    ·exact nN H
    have H:qv n (mo8+1) x0 y1 y7=some o8:=H
    rw[qv]at H
    refine tS<|rA 4<|bE H fun v9 ev9 H=>iA zB ev9<|lA 2<|kF v9.Ps zJ<|uA 1 70368744177706 2 ?_
    obtain⟨h3,H⟩|⟨h3,H⟩:=bC H
    ·refine nA h3<|Tr.exit<|aJ ?_
     cases H
     exact jA () Ho8 [3,1] [1]
    refine tA h3<|tK<|tS<|tB<|rA 3<|bE H fun v10 ev10 H=>iA zB ev10<|lA 3<|bE H fun v11 ev11 H=>iA zJ ev11<|lA 3 ?_
    obtain⟨h4,H⟩|⟨h4,H⟩:=bC H
    ·exact qL 0x80000000000002a 2 [59] h4<|uA 6 0x2000000000000002a 2<|nB_<|tK<|eA 3 42 2<|jB mo8 (wI (y7+1)) H [5,3,1] [1]
    refine qL 0x80000000000002a 2 [59] h4<|lA 3<|bE H fun r12 er12 H=>vA [.rd,.rd,.rd] (zBk n x0 y1 y7 r12 er12)<|uA 2 0x2000000000000002a 2 ?_
    obtain⟨h5,H⟩|⟨h5,H⟩:=bC H
    ·exact nA h5<|tK<|eA 3 42 2<|jB mo8 (wI (y7+1)) H [5,3,1] [1]
    refine tA h5<|gA 1 4 0<|te ?_
    obtain rfl:=si H
    have H:=Ho8
    dsimp only at H
    cases H
    exact fF Ho3
   rintro _ H
   have H:(Y9 n (fun v=>zz n mo3 x0 v) y1)=some o3:=H
   unfold Y9 at H
   exact eA 3 10 2<|jB mo3 (wI (y1+1)) H [3,1] [1]
  refine tA h2<|gA 1 4 0<|te ?_
  cases H
  exact fF Ho3
 rintro _ H
 have H:(Y7 n x0)=some r:=H
 unfold Y7 at H
 exact rA 2<|kF x0.Bs zB<|bE H fun r2 er2 H=>vA [.rd,.rd,.rd] (zf n (x0.Bs.length:Int) 1 6 r2 er2)<|uA 1 4 0<|te (fJ [(false,[cB r2])] H)
def zBj(n:Nat)(x0:Net)(x1:Int)(x2:Int):Option (Bool):=
  ((ze n x1 0 (wI ((x0.Bs.length:Int)-1))).bind fun r1=>(bif r1 then((idx x0.Bs x1).bind fun v2=>((ze n x2 0 (wI ((v2.Ps.length:Int)-1))).bind fun r3=>(bif r3 then((Qo n x0 x1 x2).bind fun r4=>(some (r4==1)))else(some false))))else(some false)))
theorem zD1(n:Nat)(x0:Net)(x1:Int)(x2:Int)(r:Bool)(H:zBj n x0 x1 x2=some r):zb Tryz.prog 115 [.val true (fR (zD x0)),.val false [.lit (.int .i64 x1)],.val false [.lit (.int .i64 x2)]] [.val false [.lit (.bool r)]] []:=by
 refine cW Tryz.func115 (fun g d=>sl [g 0,g 1] .ret) [.tmp 6] fun cx=>?_
 unfold zBj at H
 refine gA 2 14 8<|rA 3<|kF x0.Bs zB<|lA 1<|bE H fun r1 er1 H=>vA [.rd,.rd,.rd] (zf n x1 0 (wI ((x0.Bs.length:Int)-1)) r1 er1)<|lA 1 ?_
 obtain⟨h1,H⟩|⟨h1,H⟩:=bC H
 ·exact qL 8206 8 [13] h1<|uA 19 64 0<|te (fF H)
 refine qL 8206 8 [13] h1<|lA 4<|bE H fun v2 ev2 H=>iA zB ev2<|lA 2<|kF v2.Ps zJ<|lA 1<|bE H fun r3 er3 H=>vA [.rd,.rd,.rd] (zf n x2 0 (wI ((v2.Ps.length:Int)-1)) r3 er3)<|lA 2 ?_
 obtain⟨h2,H⟩|⟨h2,H⟩:=bC H
 ·exact qL 33554446 8 [25] h2<|uA 7 64 0<|te (fF H)
 exact qL 33554446 8 [25] h2<|lA 3<|bE H fun r4 er4 H=>vA [.rd,.rd,.rd] (zBk n x0 x1 x2 r4 er4)<|uA 3 64 0<|te (fJ [(false,[cB (r4==1)])] H)
def zDf(n:Nat):Option (Bool):=
  (some true)
def Zo(n:Nat):Nat→Net→Int→Option ((Unit)⊕(Bool))
  |0,_,_=>none
  |mo4+1,x0,y3=>(bif (decide (y3<(x0.Said.length:Int)))then((idx x0.Said y3).bind fun v5=>((ze n v5.Link 0 (wI ((x0.Ls.length:Int)-1))).bind fun r6=>(bif (!r6)then(some (Sum.inr false))else((idx x0.Said y3).bind fun v7=>((qK n v7.V).bind fun r8=>(bif (!r8)then(some (Sum.inr false))else(Zo n mo4 x0 (wI (y3+1)))))))))else(some (Sum.inl ())))
def zAv(n:Nat)(x0:Net):Option (Bool):=
  ((Zo n n x0 0).bind fun o=>match o with|.inl _=>(zDf n)|.inr r=>some r)
def ZZ(n:Nat):Nat→Net→Int→Option ((Unit)⊕(Bool))
  |0,_,_=>none
  |mo9+1,x0,y2=>(bif (decide (y2<(x0.Ls.length:Int)))then((idx x0.Ls y2).bind fun v10=>(bif (v10.A==v10.B)then(some (Sum.inr false))else((zBj n x0 v10.A v10.P).bind fun r11=>(bif (!r11)then(some (Sum.inr false))else((zBj n x0 v10.B v10.Q).bind fun r12=>(bif (!r12)then(some (Sum.inr false))else((idx x0.Bs v10.A).bind fun v13=>((idx v13.Ps v10.P).bind fun v14=>((idx x0.Bs v10.B).bind fun v15=>((idx v15.Ps v10.Q).bind fun v16=>(bif (!(v14.Up==v16.Up))then(some (Sum.inr false))else(ZZ n mo9 x0 (wI (y2+1))))))))))))))else(some (Sum.inl ())))
def Qb(n:Nat)(x0:Net):Option (Bool):=
  ((J4 n x0).bind fun r1=>(bif (!r1)then(some false)else(bif (decide ((x0.Ls.length:Int)>9))then(some false)else(bif (decide ((x0.Said.length:Int)>40))then(some false)else((ZZ n n x0 0).bind fun o=>match o with|.inl _=>(zAv n x0)|.inr r=>some r)))))
def zUR:Tab:=⟨50,[0,1,0,4,10,16,32,32,160,32,544,1376,2080,4128,10240,16384,16384,81920,16384,278528,704512,1064960,2113536,5242880,8388608,25165824,8388608,75497472,176160768,276824064,545259520,8388608,2155872256,5377097728,8598323200,17188257792,8388608,68727865344,8388608,274886295552,687203155968,1099520016384,2199031644160,8388608,8796101410816,21990240944128,35184380477440,70368752566272,0x800800800000,281474985099264],[0,1,0,4,10,16,32,32,160,32,544,1376,2080,4128,8192,16384,16384,81920,16384,278528,704512,1064960,2113536,4194304,8388608,25165824,8388608,75497472,176160768,276824064,545259520,8388608,2155872256,5377097728,8598323200,17188257792,8388608,68727865344,8388608,274886295552,687203155968,1099520016384,2199031644160,8388608,8796101410816,21990240944128,35184380477440,70368752566272,0x800800800000,281474985099264],[0,1,0,4,15,31,63,63,191,63,575,2047,4095,8191,16383,32767,32767,98303,32767,294911,1048575,2097151,4194303,8388607,16777215,33554431,16777215,83886079,268435455,536870911,1073741823,16777215,2164260863,8589934591,17179869183,34359738367,16777215,68736253951,16777215,274894684159,0xf000ffffff,2130320556031,4329343811583,16777215,8796109799423,35115669389311,70300041478143,0x7ff000ffffff,0xffffffffffff,562949953421311]⟩
theorem JE:qb (rg Tryz.f78 7) zUR=true:=kr
def zTc:Tab:=⟨22,[0,1,0,6,8,16,0,64,128,256,544,1024,3072,4096,12288,4096,53248,69632,135168,266240,528384,1052672],[0,1,0,6,8,16,0,64,128,256,544,1024,2048,4096,12288,4096,53248,69632,135168,266240,528384,1052672],[0,1,0,7,15,31,0,64,192,448,1023,2047,4095,8191,16383,8191,65535,131071,262143,524287,1048575,2097151]⟩
theorem J7:qb (rg Tryz.f78 12) zTc=true:=kr
theorem zGo(n:Nat)(x0:Net)(r:Bool)(H:Qb n x0=some r):zb Tryz.prog 78 [.val true (fR (zD x0))] [.val false [.lit (.bool r)]] []:=by
 refine cW Tryz.func78 (fun g d=>sl [g 0,sl [g 1] (cn 20 (sl [g 2] .ret) .skip),sl [g 3] (.block 0 (.loop (sl [sl [g 4] (cn 25 .skip (.exit 0)),.block 1 (sl [g 6,d 7] (cn 82 (sl [g 8] .ret) .skip))] (g 5)))),sl [g 9] (.block 2 (.loop (sl [sl [g 10] (cn 87 .skip (.exit 2)),.block 3 (sl [d 12] (cn 111 (sl [g 13] .ret) .skip))] (g 11)))),g 14] .ret) [.tmp 2] fun cx=>?_
 unfold Qb at H
 refine gA 2 2 2<|tS<|rA 1<|bE H fun r1 er1 H=>vA [.rd] (zKw n x0 r1 er1)<|lA 2 ?_
 obtain⟨h1,H⟩|⟨h1,H⟩:=bC H
 ·refine qL 514 2 [9] h1<|lA 2<|kF x0.Ls zE<|lA 3 ?_
  obtain⟨h2,H⟩|⟨h2,H⟩:=bC H
  ·refine qL 32770 2 [15] h2<|lA 2<|kF x0.Said zI<|uA 2 1048578 2 ?_
   obtain⟨h3,H⟩|⟨h3,H⟩:=bC H
   ·refine nA h3<|tK<|tS<|gA 1 10 2 ?_
    obtain⟨o9,eo9,Ho9⟩:=bs H
    clear H
    refine zt (ι:=Unit) (fun v=>⟨112,0,[sA 1 1 3 0],[(1,(fR (zD x0)))]⟩) (fun v=>zAv n x0=some r) ?_ ?_
    ·refine tB<|Tr.loop (ι:=Nat×(Int)) (fun v=>⟨112,0,[sI 3 v.2,sA 1 1 3 0],[(1,(fR (zD x0)))]⟩) (fun v=>ZZ n v.1 x0 v.2=some o9) (fun v=>v.1) (n,0) eo9 (za [3,1] [1] kr) ?_
     rintro⟨_|mo9,y2⟩ H
     ·exact nN H
     have H:ZZ n (mo9+1) x0 y2=some o9:=H
     rw[ZZ]at H
     refine tS<|rA 3<|kF x0.Ls zE<|uA 1 33554442 2 ?_
     obtain⟨h7,H⟩|⟨h7,H⟩:=bC H
     ·refine nA h7<|Tr.exit<|aJ ?_
      cases H
      exact jA () Ho9 [1] [1]
     refine tA h7<|tK<|tS<|tB<|rA 3<|bE H fun v10 ev10 H=>iA zE ev10<|uA 3 26 18<|sT ⟨112,0,[sA 4 4 4 0,sI 3 y2,sA 1 1 3 0],[(4,(zE v10)),(1,(fR (zD x0)))]⟩ ?_
     cases h8:(v10.A==v10.B)
     ·have H:=YA h8 H
      refine bE H fun r11 er11 H=>sT ⟨112,0,[sA 4 4 4 0,sI 3 y2,sA 1 1 3 0],[(4,(zE v10)),(1,(fR (zD x0)))]⟩ ?_
      cases h9:(!r11)
      ·have H:=YA h9 H
       refine bE H fun r12 er12 H=>sT ⟨112,0,[sA 4 4 4 0,sI 3 y2,sA 1 1 3 0],[(4,(zE v10)),(1,(fR (zD x0)))]⟩ ?_
       cases h10:(!r12)
       ·have H:=YA h10 H
        refine bE H fun v13 ev13 H=>bE H fun v14 ev14 H=>bE H fun v15 ev15 H=>bE H fun v16 ev16 H=>zd zr 50 kr ⟨112,0,[sB 82 (!(v14.Up==v16.Up)),sI 3 y2,sA 1 1 3 0],[(1,(fR (zD x0)))]⟩ (fun cx=>?_) ?_
        ·refine mA JE [(0,[]),(1,[11,20]),(2,[]),(3,[11,20]),(4,[]),(5,[])] 44 [⟨[11,20],3,35,36⟩,⟨[11,20],3,33,34⟩] fun cx=>qA 403726925850 18 [38] h8<|mA JE [(6,[11,20]),(7,[]),(8,[11,20]),(9,[]),(10,[11,20])] 39 [⟨[11,20],3,42,43⟩,⟨[11,20],3,40,41⟩,⟨[11,20],28,1,39⟩,⟨[11,20],3,35,36⟩,⟨[11,20],3,33,34⟩] fun cx=>mC JE 11<|vA [.rd,.rd,.rd] (zD1 n x0 v10.A v10.P r11 er11)<|fA<|mA JE (zl [12,13,14]) 35 [⟨[11,20],3,42,43⟩,⟨[11,20],3,40,41⟩,⟨[11,20],28,1,39⟩,⟨[11,20],3,35,36⟩,⟨[11,20],3,33,34⟩] fun cx=>qA 0x8f9e0000001a 18 [47] h9<|mA JE [(15,[20]),(16,[]),(17,[20]),(18,[]),(19,[20])] 30 [⟨[20],3,51,52⟩,⟨[20],3,49,50⟩,⟨[20],28,1,48⟩,⟨[11,20],3,42,43⟩,⟨[11,20],3,40,41⟩,⟨[11,20],28,1,39⟩,⟨[11,20],3,35,36⟩,⟨[11,20],3,33,34⟩] fun cx=>mC JE 20<|vA [.rd,.rd,.rd] (zD1 n x0 v10.B v10.Q r12 er12)<|fA<|mA JE (zl [21,22,23]) 26 [⟨[20],3,51,52⟩,⟨[20],3,49,50⟩,⟨[20],28,1,48⟩,⟨[11,20],3,42,43⟩,⟨[11,20],3,40,41⟩,⟨[11,20],28,1,39⟩,⟨[11,20],3,35,36⟩,⟨[11,20],3,33,34⟩] fun cx=>qA 80800489595207706 18 [56] h10<|mA JE (zl [24,25,26,27]) 22 [⟨[],3,59,60⟩,⟨[],24,57,58⟩,⟨[20],3,51,52⟩,⟨[20],3,49,50⟩,⟨[20],28,1,48⟩,⟨[11,20],3,42,43⟩,⟨[11,20],3,40,41⟩,⟨[11,20],28,1,39⟩,⟨[11,20],3,35,36⟩,⟨[11,20],3,33,34⟩] fun cx=>iN JE 28 zB ev13 fun cx=>mA JE (zl [29,30,31,32]) 17 [⟨[],3,64,65⟩,⟨[],3,59,60⟩,⟨[],24,57,58⟩,⟨[20],3,51,52⟩,⟨[20],3,49,50⟩,⟨[20],28,1,48⟩,⟨[11,20],3,42,43⟩,⟨[11,20],3,40,41⟩,⟨[11,20],28,1,39⟩,⟨[11,20],3,35,36⟩,⟨[11,20],3,33,34⟩] fun cx=>?_
         exact iN JE 33 zJ ev14 fun cx=>mA JE (zl [34,35,36,37,38,39]) 10 [⟨[],3,71,72⟩,⟨[],24,69,70⟩,⟨[],3,64,65⟩,⟨[],3,59,60⟩,⟨[],24,57,58⟩,⟨[20],3,51,52⟩,⟨[20],3,49,50⟩,⟨[20],28,1,48⟩,⟨[11,20],3,42,43⟩,⟨[11,20],3,40,41⟩,⟨[11,20],28,1,39⟩,⟨[11,20],3,35,36⟩,⟨[11,20],3,33,34⟩] fun cx=>iN JE 40 zB ev15 fun cx=>mA JE (zl [41,42,43,44]) 5 [⟨[],3,76,77⟩,⟨[],3,71,72⟩,⟨[],24,69,70⟩,⟨[],3,64,65⟩,⟨[],3,59,60⟩,⟨[],24,57,58⟩,⟨[20],3,51,52⟩,⟨[20],3,49,50⟩,⟨[20],28,1,48⟩,⟨[11,20],3,42,43⟩,⟨[11,20],3,40,41⟩,⟨[11,20],28,1,39⟩,⟨[11,20],3,35,36⟩,⟨[11,20],3,33,34⟩] fun cx=>iN JE 45 zJ ev16 fun cx=>mA JE (zl [46,47,48,49]) 0 [⟨[],3,76,77⟩,⟨[],3,71,72⟩,⟨[],24,69,70⟩,⟨[],3,64,65⟩,⟨[],3,59,60⟩,⟨[],24,57,58⟩,⟨[20],3,51,52⟩,⟨[20],3,49,50⟩,⟨[20],28,1,48⟩,⟨[11,20],3,42,43⟩,⟨[11,20],3,40,41⟩,⟨[11,20],28,1,39⟩,⟨[11,20],3,35,36⟩,⟨[11,20],3,33,34⟩] fun cx=>mE JE [82,3,1] [1]
        obtain⟨h11,H⟩|⟨h11,H⟩:=bC H
        ·exact qT [82] h11<|nB_<|tK<|eA 3 10 2<|jB mo9 (wI (y2+1)) H [3,1] [1]
        refine qT [82] h11<|tB_<|gA 1 4 0<|te ?_
        cases H
        exact fF Ho9
       have H:=YB h10 H
       refine zd zr 50 kr ⟨112,0,[sB 82 true,sI 3 y2,sA 1 1 3 0],[(1,(fR (zD x0)))]⟩ (fun cx=>?_) ?_
       ·exact mA JE [(0,[]),(1,[11,20]),(2,[]),(3,[11,20]),(4,[]),(5,[])] 44 [⟨[11,20],3,35,36⟩,⟨[11,20],3,33,34⟩] fun cx=>qA 403726925850 18 [38] h8<|mA JE [(6,[11,20]),(7,[]),(8,[11,20]),(9,[]),(10,[11,20])] 39 [⟨[11,20],3,42,43⟩,⟨[11,20],3,40,41⟩,⟨[11,20],28,1,39⟩,⟨[11,20],3,35,36⟩,⟨[11,20],3,33,34⟩] fun cx=>mC JE 11<|vA [.rd,.rd,.rd] (zD1 n x0 v10.A v10.P r11 er11)<|fA<|mA JE (zl [12,13,14]) 35 [⟨[11,20],3,42,43⟩,⟨[11,20],3,40,41⟩,⟨[11,20],28,1,39⟩,⟨[11,20],3,35,36⟩,⟨[11,20],3,33,34⟩] fun cx=>qA 0x8f9e0000001a 18 [47] h9<|mA JE [(15,[20]),(16,[]),(17,[20]),(18,[]),(19,[20])] 30 [⟨[20],3,51,52⟩,⟨[20],3,49,50⟩,⟨[20],28,1,48⟩,⟨[11,20],3,42,43⟩,⟨[11,20],3,40,41⟩,⟨[11,20],28,1,39⟩,⟨[11,20],3,35,36⟩,⟨[11,20],3,33,34⟩] fun cx=>mC JE 20<|vA [.rd,.rd,.rd] (zD1 n x0 v10.B v10.Q r12 er12)<|fA<|mA JE (zl [21,22,23]) 26 [⟨[20],3,51,52⟩,⟨[20],3,49,50⟩,⟨[20],28,1,48⟩,⟨[11,20],3,42,43⟩,⟨[11,20],3,40,41⟩,⟨[11,20],28,1,39⟩,⟨[11,20],3,35,36⟩,⟨[11,20],3,33,34⟩] fun cx=>qA 80800489595207706 18 [56] h10<|mA JE (zl [24,25,26,27,28,29,30,31,32,33,34,35,36,37,38,39,40,41,42,43,44,45,46,47,48,49]) 0 [⟨[20],3,51,52⟩,⟨[20],3,49,50⟩,⟨[20],28,1,48⟩,⟨[11,20],3,42,43⟩,⟨[11,20],3,40,41⟩,⟨[11,20],28,1,39⟩,⟨[11,20],3,35,36⟩,⟨[11,20],3,33,34⟩] fun cx=>mE JE [82,3,1] [1]
       refine tB_<|gA 1 4 0<|te ?_
       cases H
       exact fF Ho9
      have H:=YB h9 H
      refine zd zr 50 kr ⟨112,0,[sB 82 true,sI 3 y2,sA 1 1 3 0],[(1,(fR (zD x0)))]⟩ (fun cx=>?_) ?_
      ·exact mA JE [(0,[]),(1,[11]),(2,[]),(3,[11]),(4,[]),(5,[])] 44 [⟨[11],3,35,36⟩,⟨[11],3,33,34⟩] fun cx=>qA 403726925850 18 [38] h8<|mA JE [(6,[11]),(7,[]),(8,[11]),(9,[]),(10,[11])] 39 [⟨[11],3,42,43⟩,⟨[11],3,40,41⟩,⟨[11],28,1,39⟩,⟨[11],3,35,36⟩,⟨[11],3,33,34⟩] fun cx=>mC JE 11<|vA [.rd,.rd,.rd] (zD1 n x0 v10.A v10.P r11 er11)<|fA<|mA JE (zl [12,13,14]) 35 [⟨[11],3,42,43⟩,⟨[11],3,40,41⟩,⟨[11],28,1,39⟩,⟨[11],3,35,36⟩,⟨[11],3,33,34⟩] fun cx=>qA 0x8f9e0000001a 18 [47] h9<|mA JE (zl [15,16,17,18,19,20,21,22,23,24,25,26,27,28,29,30,31,32,33,34,35,36,37,38,39,40,41,42,43,44,45,46,47,48,49]) 0 [⟨[11],3,42,43⟩,⟨[11],3,40,41⟩,⟨[11],28,1,39⟩,⟨[11],3,35,36⟩,⟨[11],3,33,34⟩] fun cx=>mE JE [82,3,1] [1]
      refine tB_<|gA 1 4 0<|te ?_
      cases H
      exact fF Ho9
     have H:=YB h8 H
     refine zd zr 50 kr ⟨112,0,[sB 82 true,sI 3 y2,sA 1 1 3 0],[(1,(fR (zD x0)))]⟩ (fun cx=>?_) ?_
     ·exact mA JE (zl [0,1,2,3,4,5]) 44 [⟨[],3,35,36⟩,⟨[],3,33,34⟩] fun cx=>qA 403726925850 18 [38] h8<|mA JE (zl [6,7,8,9,10,11,12,13,14,15,16,17,18,19,20,21,22,23,24,25,26,27,28,29,30,31,32,33,34,35,36,37,38,39,40,41,42,43,44,45,46,47,48,49]) 0 [⟨[],3,35,36⟩,⟨[],3,33,34⟩] fun cx=>mE JE [82,3,1] [1]
     refine tB_<|gA 1 4 0<|te ?_
     cases H
     exact fF Ho9
    rintro _ H
    have H:(zAv n x0)=some r:=H
    unfold zAv at H
    refine tS<|gA 1 34 2 ?_
    obtain⟨o4,eo4,Ho4⟩:=bs H
    clear H
    refine zt (ι:=Unit) (fun v=>⟨112,0,[],[]⟩) (fun v=>zDf n=some r) ?_ ?_
    ·refine tB<|Tr.loop (ι:=Nat×(Int)) (fun v=>⟨112,0,[sI 5 v.2,sA 1 1 3 0],[(1,(fR (zD x0)))]⟩) (fun v=>Zo n v.1 x0 v.2=some o4) (fun v=>v.1) (n,0) eo4 (za [5,1] [1] kr) ?_
     rintro⟨_|mo4,y3⟩ H
     ·exact nN H
     have H:Zo n (mo4+1) x0 y3=some o4:=H
     rw[Zo]at H
     refine tS<|rA 3<|kF x0.Said zI<|uA 1 0x8000000000000000000022 2 ?_
     obtain⟨h4,H⟩|⟨h4,H⟩:=bC H
     ·refine nA h4<|Tr.exit<|aJ ?_
      cases H
      exact jA () Ho4 [] []
     refine tA h4<|tK<|tS<|tB<|bE H fun v5 ev5 H=>bE H fun r6 er6 H=>sT ⟨112,0,[sB 87 (decide (y3<(x0.Said.length:Int))),sI 5 y3,sA 1 1 3 0],[(1,(fR (zD x0)))]⟩ ?_
     cases h5:(!r6)
     ·have H:=YA h5 H
      refine bE H fun v7 ev7 H=>bE H fun r8 er8 H=>zd zr 22 kr ⟨112,0,[sB 111 (!r8),sI 5 y3,sA 1 1 3 0],[(1,(fR (zD x0)))]⟩ (fun cx=>?_) ?_
      ·exact mA J7 [(0,[]),(1,[10,19]),(2,[])] 19 [⟨[10,19],26,90,91⟩] fun cx=>iN J7 3 zI ev5 fun cx=>mA J7 (zl [4,5,6]++[(7,[10,19])]) 14 [⟨[10,19],25,96,97⟩,⟨[10,19],26,90,91⟩] fun cx=>kFN J7 8 x0.Ls zE fun cx=>mA J7 [(9,[])] 12 [⟨[10,19],25,96,97⟩,⟨[10,19],26,90,91⟩] fun cx=>mC J7 10<|vA [.rd,.rd,.rd] (zf n v5.Link 0 (wI ((x0.Ls.length:Int)-1)) r6 er6)<|fA<|mA J7 [(11,[]),(12,[])] 9 [⟨[10,19],25,96,97⟩,⟨[10,19],26,90,91⟩] fun cx=>qA 0x430c0000000000000000000022 2 [102] h5<|mA J7 [(13,[]),(14,[19]),(15,[])] 6 [⟨[19],26,103,104⟩,⟨[10,19],25,96,97⟩,⟨[10,19],26,90,91⟩] fun cx=>iN J7 16 zI ev7 fun cx=>mA J7 [(17,[]),(18,[])] 3 [⟨[19],26,103,104⟩,⟨[10,19],25,96,97⟩,⟨[10,19],26,90,91⟩] fun cx=>mC J7 19<|vA [.rd] (zE9 n v7.V r8 er8)<|fA<|mA J7 [(20,[]),(21,[])] 0 [⟨[19],26,103,104⟩,⟨[10,19],25,96,97⟩,⟨[10,19],26,90,91⟩] fun cx=>mE J7 [111,5,1] [1]
      obtain⟨h6,H⟩|⟨h6,H⟩:=bC H
      ·exact qT [111] h6<|nB_<|tK<|eA 3 34 2<|jB mo4 (wI (y3+1)) H [5,1] [1]
      refine qT [111] h6<|tB_<|gA 1 4 0<|te ?_
      cases H
      exact fF Ho4
     have H:=YB h5 H
     refine zd zr 22 kr ⟨112,0,[sB 111 true,sI 5 y3,sA 1 1 3 0],[(1,(fR (zD x0)))]⟩ (fun cx=>?_) ?_
     ·exact mA J7 [(0,[]),(1,[10]),(2,[])] 19 [⟨[10],26,90,91⟩] fun cx=>iN J7 3 zI ev5 fun cx=>mA J7 (zl [4,5,6]++[(7,[10])]) 14 [⟨[10],25,96,97⟩,⟨[10],26,90,91⟩] fun cx=>kFN J7 8 x0.Ls zE fun cx=>mA J7 [(9,[])] 12 [⟨[10],25,96,97⟩,⟨[10],26,90,91⟩] fun cx=>mC J7 10<|vA [.rd,.rd,.rd] (zf n v5.Link 0 (wI ((x0.Ls.length:Int)-1)) r6 er6)<|fA<|mA J7 [(11,[]),(12,[])] 9 [⟨[10],25,96,97⟩,⟨[10],26,90,91⟩] fun cx=>qA 0x430c0000000000000000000022 2 [102] h5<|mA J7 (zl [13,14,15,16,17,18,19,20,21]) 0 [⟨[10],25,96,97⟩,⟨[10],26,90,91⟩] fun cx=>mE J7 [111,5,1] [1]
     refine tB_<|gA 1 4 0<|te ?_
     cases H
     exact fF Ho4
    rintro _ H
    have H:(zDf n)=some r:=H
    unfold zDf at H
    exact gA 1 4 0<|te (fT H)
   exact tA h3<|gA 1 4 0<|te (fF H)
  exact qL 32770 2 [15] h2<|uA 5 1048578 2<|tB_<|gA 1 4 0<|te (fF H)
 exact qL 514 2 [9] h1<|uA 11 1048578 2<|tB_<|gA 1 4 0<|te (fF H)
def ZO(n:Nat)(x0:(List zM)):Option ((List zM)):=
  (bif (decide (([]:List zM).length+x0.length≤268435456))then(some (([]:List zM)++x0))else none)
theorem Jk(n:Nat)(x0:(List zM))(r:(List zM))(H:ZO n x0=some r):zb Tryz.prog 146 [.val false [.sl false 5 (zQ (x0.map zG))]] [.val false [.sl true 5 (r.map zG)]] []:=by
 refine cW Tryz.func146 (fun g d=>sl [g 0,g 1] .ret) [.tmp 2] fun cx=>?_
 unfold ZO at H
 exact gA 1 1 0<|rA 2<|gE H fun hg1 H=>pD zG hg1<|zY (T:=lk tab) (ty:=59) (x:=(.tmp 5)) (d:=2) (g:=none) false [cL 5 (([]:List zM)++x0) zG] kr kr kr kr kr<|dA 4 0<|te (fJ [(false,[cL 5 (([]:List zM)++x0) zG])] H)
def Z7(n:Nat)(x0:zm):Option (zm):=
  (bif (decide (([]:List zX).length+x0.Rows.length≤268435456))then(bif (decide (([]:List Int).length+x0.Pv.length≤268435456))then(some (⟨(([]:List zX)++x0.Rows),(([]:List Int)++x0.Pv)⟩:zm))else none)else none)
theorem Jm(n:Nat)(x0:zm)(r:zm)(H:Z7 n x0=some r):zb Tryz.prog 147 [.val true (fR (zc x0))] [.val true (zc r)] []:=by
 refine cW Tryz.func147 (fun g d=>sl [g 0,d 1] .ret) [.cell 2 62] fun cx=>?_
 unfold Z7 at H
 refine gA 2 6 6<|gE H fun hg1 H=>gE H fun hg2 H=>zd zr 10 kr ⟨12,0,[sA 2 2 2 0],[(2,[cL 3 (([]:List zX)++x0.Rows) zF,cL 1 (([]:List Int)++x0.Pv) zC])]⟩ (fun cx=>?_) ?_
 ·refine aA [(1,[]),(2,[3,7,8,9]),(5,[]),(6,[7,8,9])] 6 [⟨[7,8,9],30,8,9⟩,⟨[3,7,8,9],60,4,5⟩] fun cx=>YJ tOk 0 4 kr (And.intro kr ?_) (And.intro kr ?_)
  ·refine lA 1<|fA<|YJ tOk 3 4 kr (And.intro kr ?_) (And.intro kr ?_)
   ·exact pD zF hg1<|fA<|bA 4<|lA 1<|fA<|bA 7<|pD zC hg2<|fA<|bA 8<|lA 1<|fA<|bA 9<|lA 1<|fA<|eE [2] [2]
   ·exact lA 1<|fA<|bA 3<|pD zF hg1<|fA<|bA 7<|pD zC hg2<|fA<|bA 8<|lA 1<|fA<|bA 9<|lA 1<|fA<|eE [2] [2]
  ·exact lA 1<|fA<|bA 0<|lA 1<|fA<|bA 3<|pD zF hg1<|fA<|bA 7<|pD zC hg2<|fA<|bA 8<|lA 1<|fA<|bA 9<|lA 1<|fA<|eE [2] [2]
 exact te (fJ [(true,[cL 3 (([]:List zX)++x0.Rows) zF,cL 1 (([]:List Int)++x0.Pv) zC])] H)
def YS(n:Nat)(x0:zA):Option (zA):=
  (bif (decide (([]:List Pt).length+x0.Ps.length≤268435456))then((ZO n x0.F).bind fun r2=>((Z7 n x0.V).bind fun r3=>(some (⟨x0.Id,x0.Name,(([]:List Pt)++x0.Ps),r2,r3,x0.Tk,x0.Pa,x0.Wo,x0.Dr,x0.Ve⟩:zA))))else none)
theorem zEY(n:Nat)(x0:zA)(r:zA)(H:YS n x0=some r):zb Tryz.prog 113 [.val true (fR (zB x0))] [.val true (zB r)] []:=by
 refine cW Tryz.func113 (fun g d=>sl [g 0,g 1,g 2,g 3,g 4,g 5] .ret) [.cell 2 64] fun cx=>?_
 unfold YS at H
 exact gA 2 6 6<|gA 3 14 14<|rA 3<|gE H fun hg1 H=>pD zJ hg1<|uA 2 14 14<|rA 2<|bE H fun r2 er2 H=>vA [.rd] (Jk n x0.F r2 er2)<|uA 2 14 14<|rA 2<|bE H fun r3 er3 H=>vA [.rd] (Jm n x0.V r3 er3)<|uA 2 12 12<|gA 2 4 4<|te (fJ [(true,[cI x0.Id,cS x0.Name,cL 8 (([]:List Pt)++x0.Ps) zJ,cL 5 r2 zG,cL 3 r3.Rows zF,cL 1 r3.Pv zC,cI x0.Tk,cI x0.Pa,cI x0.Wo,cI x0.Dr,cI x0.Ve])] H)
def zAB(n:Nat)(x0:zA)(x1:Int):Option (Bool):=
  ((zg n x0).bind fun r1=>(bif r1 then((ze n x1 0 (wI ((x0.Ps.length:Int)-1))).bind fun r2=>(some r2))else(some false)))
theorem zIJ(n:Nat)(x0:zA)(x1:Int)(r:Bool)(H:zAB n x0 x1=some r):zb Tryz.prog 154 [.val true (fR (zB x0)),.val false [.lit (.int .i64 x1)]] [.val false [.lit (.bool r)]] []:=by
 refine cW Tryz.func154 (fun g d=>sl [g 0,g 1] .ret) [.tmp 4] fun cx=>?_
 unfold zAB at H
 refine gA 2 6 4<|rA 1<|bE H fun r1 er1 H=>vA [.rd] (zFj n x0 r1 er1)<|lA 1 ?_
 obtain⟨h1,H⟩|⟨h1,H⟩:=bC H
 ·exact qL 134 4 [7] h1<|uA 8 16 0<|te (fF H)
 exact qL 134 4 [7] h1<|lA 3<|kF x0.Ps zJ<|lA 1<|bE H fun r2 er2 H=>vA [.rd,.rd,.rd] (zf n x1 0 (wI ((x0.Ps.length:Int)-1)) r2 er2)<|uA 2 16 0<|te (fJ [(false,[cB r2])] H)
def zAY(n:Nat)(x0:Int):Option (Int):=
  (bif (decide (x0≥1000000))then(some x0)else(some (wI (x0+1))))
theorem zKW(n:Nat)(x0:Int)(r:Int)(H:zAY n x0=some r):zb Tryz.prog 118 [.val false [.lit (.int .i64 x0)]] [.val false [.lit (.int .i64 r)]] []:=by
 refine cW Tryz.func118 (fun g d=>sl [g 0,sl [g 1] (cn 4 (sl [g 2] .ret) .skip),g 3] .ret) [.tmp 2] fun cx=>?_
 unfold zAY at H
 refine gA 1 1 0<|tS<|gA 2 17 0 ?_
 obtain⟨h1,H⟩|⟨h1,H⟩:=bC H
 ·exact nA h1<|tK<|gA 3 4 0<|te (fJ [(false,[cI (wI (x0+1))])] H)
 exact tA h1<|gA 2 4 0<|te (fJ [(false,[cI x0])] H)
def Yt(n:Nat)(x0:Vec)(x1:Int):Option (Vec×Bool):=
  ((qK n x0).bind fun r1=>(bif (!r1)then(some (x0,false))else((ze n x1 1 1000).bind fun r2=>(bif (!r2)then(some (x0,false))else((qK n (⟨x0.Root,(wI (x0.Co+x1)),(wI (x0.Hops+1)),x0.Bridge,x0.Port⟩:Vec)).bind fun r3=>(bif (!r3)then(some (x0,false))else(some ((⟨x0.Root,(wI (x0.Co+x1)),(wI (x0.Hops+1)),x0.Bridge,x0.Port⟩:Vec),true))))))))
theorem zI7(n:Nat)(x0:Vec)(x1:Int)(r:Vec×Bool)(H:Yt n x0 x1=some r):zb Tryz.prog 99 [.val true (fR (zj x0)),.val false [.lit (.int .i64 x1)]] [.val true (zj r.1),.val false [.lit (.bool r.2)]] []:=by
 refine cW Tryz.func99 (fun g d=>sl [g 0,sl [g 1] (cn 14 (sl [g 2] .ret) .skip),g 3,g 4,g 5,sl [g 6] (cn 28 (sl [g 7] .ret) .skip),g 8] .ret) [.cell 4 73,.tmp 5] fun cx=>?_
 unfold Yt at H
 refine gA 3 22 20<|tS<|rA 1<|bE H fun r1 er1 H=>vA [.rd] (zE9 n x0 r1 er1)<|lA 2 ?_
 obtain⟨h1,H⟩|⟨h1,H⟩:=bC H
 ·refine qL 1046 20 [10] h1<|lA 1<|bE H fun r2 er2 H=>vA [.rd,.rd,.rd] (zf n x1 1 1000 r2 er2)<|uA 2 16406 20 ?_
  obtain⟨h2,H⟩|⟨h2,H⟩:=bC H
  ·refine nA h2<|tK<|gA 3 86 84<|gA 6 84 84<|gA 5 84 84<|tS<|rA 1<|bE H fun r3 er3 H=>vA [.rd] (zE9 n (⟨x0.Root,(wI (x0.Co+x1)),(wI (x0.Hops+1)),x0.Bridge,x0.Port⟩:Vec) r3 er3)<|uA 1 268435540 84 ?_
   obtain⟨h3,H⟩|⟨h3,H⟩:=bC H
   ·exact nA h3<|tK<|gA 3 48 16<|te (fJ [(true,[cI x0.Root,cI (wI (x0.Co+x1)),cI (wI (x0.Hops+1)),cI x0.Bridge,cI x0.Port]),(false,[cB true])] H)
   exact tA h3<|gA 3 48 16<|te (fJ [(true,(zj x0)),(false,[cB false])] H)
  exact tA h2<|gA 3 48 16<|te (fJ [(true,(zj x0)),(false,[cB false])] H)
 exact qL 1046 20 [10] h1<|uA 4 16406 20<|tB_<|gA 3 48 16<|te (fJ [(true,(zj x0)),(false,[cB false])] H)
def Jp(n:Nat)(x0:Vec)(x1:Vec):Option (Bool):=
  (bif (x0.Root != x1.Root)then(some (decide (x0.Root<x1.Root)))else(bif (x0.Co != x1.Co)then(some (decide (x0.Co<x1.Co)))else(bif (x0.Bridge != x1.Bridge)then(some (decide (x0.Bridge<x1.Bridge)))else(some (decide (x0.Port<x1.Port))))))
theorem zI6(n:Nat)(x0:Vec)(x1:Vec)(r:Bool)(H:Jp n x0 x1=some r):zb Tryz.prog 100 [.val true (fR (zj x0)),.val true (fR (zj x1))] [.val false [.lit (.bool r)]] []:=by
 refine cW Tryz.func100 (fun g d=>sl [g 0,.block 0 (sl [g 1] (cn 5 (sl [g 2] .ret) (sl [g 3] (cn 16 (sl [g 4] .ret) (sl [g 5] (cn 27 (sl [g 6] .ret) .skip)))))),g 7] .ret) [.tmp 4] fun cx=>?_
 unfold Jp at H
 refine gA 3 12 12<|tS<|tB<|gA 6 44 12 ?_
 obtain⟨h1,H⟩|⟨h1,H⟩:=bC H
 ·refine nA h1<|gA 6 65548 12 ?_
  obtain⟨h2,H⟩|⟨h2,H⟩:=bC H
  ·refine nA h2<|gA 6 134217740 12 ?_
   obtain⟨h3,H⟩|⟨h3,H⟩:=bC H
   ·exact nA h3<|tK<|gA 6 16 0<|te (fJ [(false,[cB (decide (x0.Port<x1.Port))])] H)
   exact tA h3<|gA 6 16 0<|te (fJ [(false,[cB (decide (x0.Bridge<x1.Bridge))])] H)
  exact tA h2<|gA 6 16 0<|te (fJ [(false,[cB (decide (x0.Co<x1.Co))])] H)
 exact tA h1<|gA 6 16 0<|te (fJ [(false,[cB (decide (x0.Root<x1.Root))])] H)
def zB6(n:Nat)(x0:Int)(y11:Int)(y12:Int)(y13:Int)(y14:Int):Option (Vec×Int):=
  (some ((⟨y12,y13,y14,x0,0⟩:Vec),y11))
def QM(n:Nat)(k:(Int×Int×Int×Int×Int×Int×Int×Int×Int×Int→Option ((Int×Int×Int×Int)⊕(Vec×Int))))(r20:Vec×Bool)(y1:Int)(y10:Int)(y2:Int)(y3:Int)(y4:Int)(y5:Int)(y6:Int)(y7:Int)(y8:Int)(y9:Int)(y21:Bool)(y22:Bool)(y23:Bool)(y24:Bool)(y25:Bool)(y26:Bool)(y27:Bool):Option ((Int×Int×Int×Int)⊕(Vec×Int)):=
  (bif y21 then(k ((wI (y1+1)),y1,r20.1.Root,r20.1.Co,r20.1.Hops,r20.1.Bridge,r20.1.Port,r20.1.Root,r20.1.Co,r20.1.Hops))else(k ((wI (y1+1)),y2,y3,y4,y5,y6,y7,y8,y9,y10)))
def qR(n:Nat):Nat→Int→(List Pt)→Int→Int→Int→Int→Int→Int→Int→Int→Int→Int→Option ((Int×Int×Int×Int)⊕(Vec×Int))
  |0,_,_,_,_,_,_,_,_,_,_,_,_=>none
  |mo15+1,x0,x1,y1,y2,y3,y4,y5,y6,y7,y8,y9,y10=>(bif (decide (y1<(x1.length:Int)))then((idx x1 y1).bind fun v16=>(bif (!v16.Up)then(qR n mo15 x0 x1 (wI (y1+1)) y2 y3 y4 y5 y6 y7 y8 y9 y10)else((idx x1 y1).bind fun v17=>(bif (!v17.Has)then(qR n mo15 x0 x1 (wI (y1+1)) y2 y3 y4 y5 y6 y7 y8 y9 y10)else((idx x1 y1).bind fun v18=>((idx x1 y1).bind fun v19=>((Yt n v18.Hd v19.Co).bind fun r20=>(bif r20.2 then(bif (decide (r20.1.Root<x0))then(bif (decide (y2<0))then(QM n (fun v=>qR n mo15 x0 x1 v.1 v.2.1 v.2.2.1 v.2.2.2.1 v.2.2.2.2.1 v.2.2.2.2.2.1 v.2.2.2.2.2.2.1 v.2.2.2.2.2.2.2.1 v.2.2.2.2.2.2.2.2.1 v.2.2.2.2.2.2.2.2.2) r20 y1 y10 y2 y3 y4 y5 y6 y7 y8 y9 true true true true true true true)else((Jp n r20.1 (⟨y3,y4,y5,y6,y7⟩:Vec)).bind fun r28=>(QM n (fun v=>qR n mo15 x0 x1 v.1 v.2.1 v.2.2.1 v.2.2.2.1 v.2.2.2.2.1 v.2.2.2.2.2.1 v.2.2.2.2.2.2.1 v.2.2.2.2.2.2.2.1 v.2.2.2.2.2.2.2.2.1 v.2.2.2.2.2.2.2.2.2) r20 y1 y10 y2 y3 y4 y5 y6 y7 y8 y9 r28 true true true true true true)))else(QM n (fun v=>qR n mo15 x0 x1 v.1 v.2.1 v.2.2.1 v.2.2.2.1 v.2.2.2.2.1 v.2.2.2.2.2.1 v.2.2.2.2.2.2.1 v.2.2.2.2.2.2.2.1 v.2.2.2.2.2.2.2.2.1 v.2.2.2.2.2.2.2.2.2) r20 y1 y10 y2 y3 y4 y5 y6 y7 y8 y9 false false false true true true true))else(QM n (fun v=>qR n mo15 x0 x1 v.1 v.2.1 v.2.2.1 v.2.2.2.1 v.2.2.2.2.1 v.2.2.2.2.2.1 v.2.2.2.2.2.2.1 v.2.2.2.2.2.2.2.1 v.2.2.2.2.2.2.2.2.1 v.2.2.2.2.2.2.2.2.2) r20 y1 y10 y2 y3 y4 y5 y6 y7 y8 y9 false false false false false false false)))))))))else(some (Sum.inl (y2,y8,y9,y10))))
def Qm(n:Nat)(x0:Int)(x1:(List Pt)):Option (Vec×Int):=
  ((qR n n x0 x1 0 (-1) 0 0 0 0 0 x0 0 0).bind fun o=>match o with|.inl (y11,y12,y13,y14)=>(zB6 n x0 y11 y12 y13 y14)|.inr r=>some r)
def zUO:Tab:=⟨17,[0,0,3,4,8,0,0,96,128,256,528,1024,2048,2048,0,24575,65535],[0,0,3,4,8,0,0,96,128,256,528,1024,2048,2048,0,20480,8192],[0,0,3,7,15,0,0,96,224,480,1023,2047,4095,4095,0,24575,65535]⟩
theorem zDR:qb (rg Tryz.f66 8) zUO=true:=kr
theorem zEW(n:Nat)(x0:Int)(x1:(List Pt))(r:Vec×Int)(H:Qm n x0 x1=some r):zb Tryz.prog 66 [.val false [.lit (.int .i64 x0)],.val false [.sl false 8 (zQ (x1.map zJ))]] [.val true (zj r.1),.val false [.lit (.int .i64 r.2)]] []:=by
 refine cW Tryz.func66 (fun g d=>sl [g 0,g 1,g 2,g 3,sl [g 4] (.block 0 (.loop (sl [sl [g 5] (cn 19 .skip (.exit 0)),.block 1 (sl [sl [g 7] (cn 35 (.exit 1) .skip),d 8,g 9] (cn 65 (sl [g 10,g 11] (g 12)) .skip))] (g 6)))),g 13] .ret) [.cell 4 73,.tmp 5] fun cx=>?_
 unfold Qm at H
 refine gA 2 51 16<|gA 5 115 80<|gA 3 243 208<|gA 1 499 208<|tS<|gA 1 1011 208 ?_
 obtain⟨o15,eo15,Ho15⟩:=bs H
 clear H
 refine zt (ι:=Int×Int×Int×Int) (fun v=>⟨78,0,[sI 8 v.1,sA 6 6 5 0,sI 5 0,sA 4 4 5 0],[(6,[cI v.2.1,cI v.2.2.1,cI v.2.2.2,cI x0,cI 0]),(4,[cI 0,cI 0,cI 0,cI 0,cI 0])]⟩) (fun v=>zB6 n x0 v.1 v.2.1 v.2.2.1 v.2.2.2=some r) ?_ ?_
 ·refine tB<|Tr.loop (ι:=Nat×(Int×Int×Int×Int×Int×Int×Int×Int×Int×Int)) (fun v=>⟨78,0,[sI 9 v.2.1,sI 8 v.2.2.1,sA 7 7 5 0,sA 6 6 5 0,sI 5 0,sA 4 4 5 0,sI 0 x0,sC 1 (cF 8 x1 zJ)],[(7,[cI v.2.2.2.1,cI v.2.2.2.2.1,cI v.2.2.2.2.2.1,cI v.2.2.2.2.2.2.1,cI v.2.2.2.2.2.2.2.1]),(6,[cI v.2.2.2.2.2.2.2.2.1,cI v.2.2.2.2.2.2.2.2.2.1,cI v.2.2.2.2.2.2.2.2.2.2,cI x0,cI 0]),(4,[cI 0,cI 0,cI 0,cI 0,cI 0])]⟩) (fun v=>qR n v.1 x0 x1 v.2.1 v.2.2.1 v.2.2.2.1 v.2.2.2.2.1 v.2.2.2.2.2.1 v.2.2.2.2.2.2.1 v.2.2.2.2.2.2.2.1 v.2.2.2.2.2.2.2.2.1 v.2.2.2.2.2.2.2.2.2.1 v.2.2.2.2.2.2.2.2.2.2=some o15) (fun v=>v.1) (n,(0,(-1),0,0,0,0,0,x0,0,0)) eo15 (za [9,8,7,6,5,4,0,1] [7,6,4] kr) ?_
  rintro⟨_|mo15,y1,y2,y3,y4,y5,y6,y7,y8,y9,y10⟩ H
  ·exact nN H
  have H:qR n (mo15+1) x0 x1 y1 y2 y3 y4 y5 y6 y7 y8 y9 y10=some o15:=H
  rw[qR]at H
  refine tS<|rA 2<|kF x1 zJ<|uA 1 984051 208 ?_
  obtain⟨h1,H⟩|⟨h1,H⟩:=bC H
  ·refine nA h1<|Tr.exit<|aJ ?_
   cases H
   exact jA (y2,y8,y9,y10) Ho15 [8,6,5,4] [6,4]
  refine tA h1<|tK<|tS<|tB<|tS<|rA 2<|bE H fun v16 ev16 H=>iA zJ ev16<|lA 4 ?_
  obtain⟨h2,H⟩|⟨h2,H⟩:=bC H
  ·refine qL 533660659 208 [28,27] h2<|lA 2<|bE H fun v17 ev17 H=>iA zJ ev17<|uA 4 68716266483 208 ?_
   obtain⟨h3,H⟩|⟨h3,H⟩:=bC H
   ·refine nA h3<|tK<|bE H fun v18 ev18 H=>bE H fun v19 ev19 H=>bE H fun r20 er20 H=>zd zr 17 kr ⟨78,0,[sB 11 r20.2,sA 10 10 5 0,sB 49 r20.2,(36,.tup [(true,[.dead,.dead,.dead,.dead,.dead]),(false,[.dead])]),sV 48 (zj r20.1),sI 46 v19.Co,(45,.fad (((zJ v19).drop 1))),(44,.fad ((zJ v19))),sI 43 y1,sC 42 (cF 8 x1 zJ),sV 41 ((zJ v18).drop 3),(40,.fad (((zJ v18).drop 3))),(39,.fad ((zJ v18))),sI 38 y1,sC 37 (cF 8 x1 zJ),sB 35 (!v17.Has),sB 34 (!v17.Has),sB 33 v17.Has,(32,.fad (((zJ v17).drop 2))),(31,.fad ((zJ v17))),sI 30 y1,sC 29 (cF 8 x1 zJ),sB 28 false,sB 27 false,sB 26 v16.Up,(25,.fad ((zJ v16))),(24,.fad ((zJ v16))),sI 23 y1,sC 22 (cF 8 x1 zJ),sB 19 (decide (y1<(x1.length:Int))),sI 18 (x1.length:Int),sC 17 (cF 8 x1 zJ),sI 16 y1,sI 9 y1,sI 8 y2,sA 7 7 5 0,sA 6 6 5 0,sI 5 0,sA 4 4 5 0,sI 0 x0,sC 1 (cF 8 x1 zJ)],[(10,(zj r20.1)),(7,[cI y3,cI y4,cI y5,cI y6,cI y7]),(6,[cI y8,cI y9,cI y10,cI x0,cI 0]),(4,[cI 0,cI 0,cI 0,cI 0,cI 0])]⟩ (fun cx=>?_) ?_
    ·refine mA zDR [(0,[]),(1,[])] 15 [] fun cx=>iN zDR 2 zJ ev18 fun cx=>mA zDR (zl [3,4,5,6]) 10 [] fun cx=>iN zDR 7 zJ ev19 fun cx=>mA zDR [(8,[]),(9,[])] 7 [] fun cx=>mB2 tOk zDR 10 14 kr (And.intro kr ?_) (And.intro kr ?_)
     ·refine vA [.rd,.rd] (zI7 n v18.Hd v19.Co r20 er20)<|fA<|AT.movT tOk 11 (ty:=113) (t:=47) (d:=36) (g:=none) [(true,(zj r20.1)),(false,[cB r20.2])] _ kr (oM zDR kr) (dM zDR kr) (.inl rfl) kr kr kr kr rfl (fun cx=>?_)
      exact mA zDR [(12,[]),(13,[])] 3 [] fun cx=>mC zDR 14<|lA 1<|fA<|mC zDR 15<|lA 1<|fA<|mA zDR [(16,[])] 0 [] fun cx=>mE zDR [11,10,49,36,48,46,45,44,43,42,41,40,39,38,37,35,34,33,32,31,30,29,28,27,26,25,24,23,22,19,18,17,16,9,8,7,6,5,4,0,1] [10,7,6,4]
     ·refine lA 1<|fA<|mC zDR 10<|vA [.rd,.rd] (zI7 n v18.Hd v19.Co r20 er20)<|fA<|AT.movT tOk 11 (ty:=113) (t:=47) (d:=36) (g:=none) [(true,(zj r20.1)),(false,[cB r20.2])] _ kr (oM zDR kr) (dM zDR kr) (.inl rfl) kr kr kr kr rfl (fun cx=>?_)
      exact mA zDR [(12,[]),(13,[])] 2 [] fun cx=>mC zDR 15<|lA 1<|fA<|mA zDR [(16,[])] 0 [] fun cx=>mE zDR [11,10,49,36,48,46,45,44,43,42,41,40,39,38,37,35,34,33,32,31,30,29,28,27,26,25,24,23,22,19,18,17,16,9,8,7,6,5,4,0,1] [10,7,6,4]
    refine tS<|zt (ι:=Bool×Bool×Bool×Bool×Bool×Bool×Bool) (fun v=>⟨78,0,[sB 65 v.1,sB 57 v.2.1,sB 56 v.2.2.1,sB 51 v.2.2.2.1,sB 50 v.2.2.2.2.1,sB 11 v.2.2.2.2.2.1,sA 10 10 5 0,sB 49 v.2.2.2.2.2.2,(36,.tup [(true,[.dead,.dead,.dead,.dead,.dead]),(false,[.dead])]),sV 48 (zj r20.1),sI 46 v19.Co,(45,.fad (((zJ v19).drop 1))),(44,.fad ((zJ v19))),sI 43 y1,sC 42 (cF 8 x1 zJ),sV 41 ((zJ v18).drop 3),(40,.fad (((zJ v18).drop 3))),(39,.fad ((zJ v18))),sI 38 y1,sC 37 (cF 8 x1 zJ),sB 35 false,sB 34 false,sB 33 v17.Has,(32,.fad (((zJ v17).drop 2))),(31,.fad ((zJ v17))),sI 30 y1,sC 29 (cF 8 x1 zJ),sB 28 false,sB 27 false,sB 26 v16.Up,(25,.fad ((zJ v16))),(24,.fad ((zJ v16))),sI 23 y1,sC 22 (cF 8 x1 zJ),sB 19 true,sI 18 (x1.length:Int),sC 17 (cF 8 x1 zJ),sI 16 y1,sI 9 y1,sI 8 y2,sA 7 7 5 0,sA 6 6 5 0,sI 5 0,sA 4 4 5 0,sI 0 x0,sC 1 (cF 8 x1 zJ)],[(10,(zj r20.1)),(7,[cI y3,cI y4,cI y5,cI y6,cI y7]),(6,[cI y8,cI y9,cI y10,cI x0,cI 0]),(4,[cI 0,cI 0,cI 0,cI 0,cI 0])]⟩) (fun v=>QM n (fun v=>qR n mo15 x0 x1 v.1 v.2.1 v.2.2.1 v.2.2.2.1 v.2.2.2.2.1 v.2.2.2.2.2.1 v.2.2.2.2.2.2.1 v.2.2.2.2.2.2.2.1 v.2.2.2.2.2.2.2.2.1 v.2.2.2.2.2.2.2.2.2) r20 y1 y10 y2 y3 y4 y5 y6 y7 y8 y9 v.1 v.2.1 v.2.2.1 v.2.2.2.1 v.2.2.2.2.1 v.2.2.2.2.2.1 v.2.2.2.2.2.2=some o15) ?_ ?_
    ·refine Tr.at<|lA 2 ?_
     obtain⟨h5,H⟩|⟨h5,H⟩:=bC H
     ·refine qL 0xf7fffffcf0ff3 1232 [51,50,11,49] h5<|uA 14 0x3ffff7fffffcf0ff3 1232<|sB' 0x3ffff7fffffcf0ff3 1232 ⟨78,0,[sB 65 false,(64,.tup []),(63,.tup []),(62,.tup []),(61,.tup []),(60,.tup []),(59,.tup []),(58,.tup []),sB 57 false,sB 56 false,(55,.tup []),(54,.tup []),(53,.tup []),(52,.tup []),sB 51 false,sB 50 false,sB 11 false,sA 10 10 5 0,sB 49 false,(36,.tup [(true,[.dead,.dead,.dead,.dead,.dead]),(false,[.dead])]),sV 48 (zj r20.1),sI 46 v19.Co,(45,.fad (((zJ v19).drop 1))),(44,.fad ((zJ v19))),sI 43 y1,sC 42 (cF 8 x1 zJ),sV 41 ((zJ v18).drop 3),(40,.fad (((zJ v18).drop 3))),(39,.fad ((zJ v18))),sI 38 y1,sC 37 (cF 8 x1 zJ),sB 35 (!v17.Has),sB 34 (!v17.Has),sB 33 v17.Has,(32,.fad (((zJ v17).drop 2))),(31,.fad ((zJ v17))),sI 30 y1,sC 29 (cF 8 x1 zJ),sB 28 false,sB 27 false,sB 26 v16.Up,(25,.fad ((zJ v16))),(24,.fad ((zJ v16))),sI 23 y1,sC 22 (cF 8 x1 zJ),sB 19 (decide (y1<(x1.length:Int))),sI 18 (x1.length:Int),sC 17 (cF 8 x1 zJ),sI 16 y1,sI 9 y1,sI 8 y2,sA 7 7 5 0,sA 6 6 5 0,sI 5 0,sA 4 4 5 0,sI 0 x0,sC 1 (cF 8 x1 zJ)],[(10,(zj r20.1)),(7,[cI y3,cI y4,cI y5,cI y6,cI y7]),(6,[cI y8,cI y9,cI y10,cI x0,cI 0]),(4,[cI 0,cI 0,cI 0,cI 0,cI 0])]⟩ ?_
      rw[h1]
      rw[h3]
      exact jA (false,false,false,false,false,false,false) H [65,57,56,51,50,11,10,49,36,48,46,45,44,43,42,41,40,39,38,37,35,34,33,32,31,30,29,28,27,26,25,24,23,22,19,18,17,16,9,8,7,6,5,4,0,1] [10,7,6,4]
     refine qL 0xf7fffffcf0ff3 1232 [51,50,11,49] h5<|lA 6 ?_
     obtain⟨h6,H⟩|⟨h6,H⟩:=bC H
     ·refine qL 0x3ff7fffffcf0ff3 1232 [57,56,55] h6<|uA 8 0x3ffff7fffffcf0ff3 1232<|sB' 0x3ffff7fffffcf0ff3 1232 ⟨78,0,[sB 65 false,(64,.tup []),(63,.tup []),(62,.tup []),(61,.tup []),(60,.tup []),(59,.tup []),(58,.tup []),sB 57 false,sB 56 false,sB 55 false,sI 54 x0,sI 53 r20.1.Root,sA 52 10 5 0,sB 51 true,sB 50 true,sB 11 true,sA 10 10 5 0,sB 49 true,(36,.tup [(true,[.dead,.dead,.dead,.dead,.dead]),(false,[.dead])]),sV 48 (zj r20.1),sI 46 v19.Co,(45,.fad (((zJ v19).drop 1))),(44,.fad ((zJ v19))),sI 43 y1,sC 42 (cF 8 x1 zJ),sV 41 ((zJ v18).drop 3),(40,.fad (((zJ v18).drop 3))),(39,.fad ((zJ v18))),sI 38 y1,sC 37 (cF 8 x1 zJ),sB 35 (!v17.Has),sB 34 (!v17.Has),sB 33 v17.Has,(32,.fad (((zJ v17).drop 2))),(31,.fad ((zJ v17))),sI 30 y1,sC 29 (cF 8 x1 zJ),sB 28 false,sB 27 false,sB 26 v16.Up,(25,.fad ((zJ v16))),(24,.fad ((zJ v16))),sI 23 y1,sC 22 (cF 8 x1 zJ),sB 19 (decide (y1<(x1.length:Int))),sI 18 (x1.length:Int),sC 17 (cF 8 x1 zJ),sI 16 y1,sI 9 y1,sI 8 y2,sA 7 7 5 0,sA 6 6 5 0,sI 5 0,sA 4 4 5 0,sI 0 x0,sC 1 (cF 8 x1 zJ)],[(10,(zj r20.1)),(7,[cI y3,cI y4,cI y5,cI y6,cI y7]),(6,[cI y8,cI y9,cI y10,cI x0,cI 0]),(4,[cI 0,cI 0,cI 0,cI 0,cI 0])]⟩ ?_
      rw[h1]
      rw[h3]
      exact jA (false,false,false,true,true,true,true) H [65,57,56,51,50,11,10,49,36,48,46,45,44,43,42,41,40,39,38,37,35,34,33,32,31,30,29,28,27,26,25,24,23,22,19,18,17,16,9,8,7,6,5,4,0,1] [10,7,6,4]
     refine qL 0x3ff7fffffcf0ff3 1232 [57,56,55] h6<|lA 3 ?_
     obtain⟨h7,H⟩|⟨h7,H⟩:=bC H
     ·refine qL 0x1fff7fffffcf0ff3 1232 [60,59] h7<|lA 2<|bE H fun r28 er28 H=>vA [.rd,.rd] (zI6 n r20.1 (⟨y3,y4,y5,y6,y7⟩:Vec) r28 er28)<|uA 2 0x3ffff7fffffcf0ff3 1232<|sB' 0x3ffff7fffffcf0ff3 1232 ⟨78,0,[sB 65 r28,sB 64 r28,sB 63 r28,sV 62 [cI y3,cI y4,cI y5,cI y6,cI y7],sV 61 (zj r20.1),sB 60 false,sB 59 false,sI 58 y2,sB 57 true,sB 56 true,sB 55 true,sI 54 x0,sI 53 r20.1.Root,sA 52 10 5 0,sB 51 true,sB 50 true,sB 11 true,sA 10 10 5 0,sB 49 true,(36,.tup [(true,[.dead,.dead,.dead,.dead,.dead]),(false,[.dead])]),sV 48 (zj r20.1),sI 46 v19.Co,(45,.fad (((zJ v19).drop 1))),(44,.fad ((zJ v19))),sI 43 y1,sC 42 (cF 8 x1 zJ),sV 41 ((zJ v18).drop 3),(40,.fad (((zJ v18).drop 3))),(39,.fad ((zJ v18))),sI 38 y1,sC 37 (cF 8 x1 zJ),sB 35 (!v17.Has),sB 34 (!v17.Has),sB 33 v17.Has,(32,.fad (((zJ v17).drop 2))),(31,.fad ((zJ v17))),sI 30 y1,sC 29 (cF 8 x1 zJ),sB 28 false,sB 27 false,sB 26 v16.Up,(25,.fad ((zJ v16))),(24,.fad ((zJ v16))),sI 23 y1,sC 22 (cF 8 x1 zJ),sB 19 (decide (y1<(x1.length:Int))),sI 18 (x1.length:Int),sC 17 (cF 8 x1 zJ),sI 16 y1,sI 9 y1,sI 8 y2,sA 7 7 5 0,sA 6 6 5 0,sI 5 0,sA 4 4 5 0,sI 0 x0,sC 1 (cF 8 x1 zJ)],[(10,(zj r20.1)),(7,[cI y3,cI y4,cI y5,cI y6,cI y7]),(6,[cI y8,cI y9,cI y10,cI x0,cI 0]),(4,[cI 0,cI 0,cI 0,cI 0,cI 0])]⟩ ?_
      rw[h1]
      rw[h3]
      exact jA (r28,true,true,true,true,true,true) H [65,57,56,51,50,11,10,49,36,48,46,45,44,43,42,41,40,39,38,37,35,34,33,32,31,30,29,28,27,26,25,24,23,22,19,18,17,16,9,8,7,6,5,4,0,1] [10,7,6,4]
     refine qL 0x1fff7fffffcf0ff3 1232 [60,59] h7<|uA 5 0x3ffff7fffffcf0ff3 1232<|sB' 0x3ffff7fffffcf0ff3 1232 ⟨78,0,[sB 65 true,sB 64 true,(63,.tup []),(62,.tup []),(61,.tup []),sB 60 true,sB 59 true,sI 58 y2,sB 57 true,sB 56 true,sB 55 true,sI 54 x0,sI 53 r20.1.Root,sA 52 10 5 0,sB 51 true,sB 50 true,sB 11 true,sA 10 10 5 0,sB 49 true,(36,.tup [(true,[.dead,.dead,.dead,.dead,.dead]),(false,[.dead])]),sV 48 (zj r20.1),sI 46 v19.Co,(45,.fad (((zJ v19).drop 1))),(44,.fad ((zJ v19))),sI 43 y1,sC 42 (cF 8 x1 zJ),sV 41 ((zJ v18).drop 3),(40,.fad (((zJ v18).drop 3))),(39,.fad ((zJ v18))),sI 38 y1,sC 37 (cF 8 x1 zJ),sB 35 (!v17.Has),sB 34 (!v17.Has),sB 33 v17.Has,(32,.fad (((zJ v17).drop 2))),(31,.fad ((zJ v17))),sI 30 y1,sC 29 (cF 8 x1 zJ),sB 28 false,sB 27 false,sB 26 v16.Up,(25,.fad ((zJ v16))),(24,.fad ((zJ v16))),sI 23 y1,sC 22 (cF 8 x1 zJ),sB 19 (decide (y1<(x1.length:Int))),sI 18 (x1.length:Int),sC 17 (cF 8 x1 zJ),sI 16 y1,sI 9 y1,sI 8 y2,sA 7 7 5 0,sA 6 6 5 0,sI 5 0,sA 4 4 5 0,sI 0 x0,sC 1 (cF 8 x1 zJ)],[(10,(zj r20.1)),(7,[cI y3,cI y4,cI y5,cI y6,cI y7]),(6,[cI y8,cI y9,cI y10,cI x0,cI 0]),(4,[cI 0,cI 0,cI 0,cI 0,cI 0])]⟩ ?_
     rw[h1]
     rw[h3]
     exact jA (true,true,true,true,true,true,true) H [65,57,56,51,50,11,10,49,36,48,46,45,44,43,42,41,40,39,38,37,35,34,33,32,31,30,29,28,27,26,25,24,23,22,19,18,17,16,9,8,7,6,5,4,0,1] [10,7,6,4]
    rintro⟨y21,y22,y23,y24,y25,y26,y27⟩ H
    have H:(QM n (fun v=>qR n mo15 x0 x1 v.1 v.2.1 v.2.2.1 v.2.2.2.1 v.2.2.2.2.1 v.2.2.2.2.2.1 v.2.2.2.2.2.2.1 v.2.2.2.2.2.2.2.1 v.2.2.2.2.2.2.2.2.1 v.2.2.2.2.2.2.2.2.2) r20 y1 y10 y2 y3 y4 y5 y6 y7 y8 y9 y21 y22 y23 y24 y25 y26 y27)=some o15:=H
    unfold QM at H
    cases h4:y21
    ·have H:=YA h4 H
     exact nB_<|tK<|eA 3 0x2030f7fffffff0ff3 1232<|jB mo15 ((wI (y1+1)),y2,y3,y4,y5,y6,y7,y8,y9,y10) H [9,8,7,6,5,4,0,1] [7,6,4]
    have H:=YB h4 H
    exact tB_<|gA 2 0x6030f7fffffcf0ff3 1232<|gA 2 0xe030f7fffffcf0ff3 1232<|eA 9 0xffe030f7fffffcf0ff3 1232<|eA 3 0xffe030f7fffffff0ff3 1232<|jB mo15 ((wI (y1+1)),y1,r20.1.Root,r20.1.Co,r20.1.Hops,r20.1.Bridge,r20.1.Port,r20.1.Root,r20.1.Co,r20.1.Hops) H [9,8,7,6,5,4,0,1] [7,6,4]
   exact tA h3<|Tr.exit<|aJ<|eA 3 68719412211 208<|jB mo15 ((wI (y1+1)),y2,y3,y4,y5,y6,y7,y8,y9,y10) H [9,8,7,6,5,4,0,1] [7,6,4]
  exact qL 533660659 208 [28,27] h2<|uA 7 68716266483 208<|tB_<|Tr.exit<|aJ<|eA 3 68719412211 208<|jB mo15 ((wI (y1+1)),y2,y3,y4,y5,y6,y7,y8,y9,y10) H [9,8,7,6,5,4,0,1] [7,6,4]
 rintro⟨y11,y12,y13,y14⟩ H
 have H:(zB6 n x0 y11 y12 y13 y14)=some r:=H
 unfold zB6 at H
 exact gA 4 48 16<|te (fJ [(true,[cI y12,cI y13,cI y14,cI x0,cI 0]),(false,[cI y11])] H)
def ZF(n:Nat)(x0:Int)(x1:(List Pt))(x2:Int):Option (Vec):=
  ((Qm n x0 x1).bind fun r1=>(some (⟨r1.1.Root,r1.1.Co,r1.1.Hops,r1.1.Bridge,x2⟩:Vec)))
theorem zHY(n:Nat)(x0:Int)(x1:(List Pt))(x2:Int)(r:Vec)(H:ZF n x0 x1 x2=some r):zb Tryz.prog 126 [.val false [.lit (.int .i64 x0)],.val false [.sl false 8 (zQ (x1.map zJ))],.val false [.lit (.int .i64 x2)]] [.val true (zj r)] []:=by
 refine cW Tryz.func126 (fun g d=>sl [g 0,g 1,g 2,g 3] .ret) [.cell 6 73] fun cx=>?_
 unfold ZF at H
 exact gA 1 71 64<|rA 2<|bE H fun r1 er1 H=>vA [.rd,.rd] (zEW n x0 x1 r1 er1)<|LAt.movT tOk (ty:=86) (t:=12) (d:=9) (g:=none) [(true,(zj r1.1)),(false,[cI r1.2])] _ kr (.inl rfl) kr kr kr kr rfl<|uA 5 196 192<|gA 3 192 192<|gA 2 64 64<|te (fJ [(true,[cI r1.1.Root,cI r1.1.Co,cI r1.1.Hops,cI r1.1.Bridge,cI x2])] H)
def zAX(n:Nat)(x0:Int)(x1:(List Pt))(x2:Int):Option (Int):=
  ((ze n x2 0 (wI ((x1.length:Int)-1))).bind fun r1=>(bif (!r1)then(some 4)else((idx x1 x2).bind fun v2=>(bif (!v2.Up)then(some 4)else((Qm n x0 x1).bind fun r3=>(bif (r3.2==x2)then(some 1)else((idx x1 x2).bind fun v4=>(bif (!v4.Has)then(some 2)else((ZF n x0 x1 x2).bind fun r5=>((idx x1 x2).bind fun v6=>((Jp n r5 v6.Hd).bind fun r7=>(bif r7 then(some 2)else(some 3)))))))))))))
def zTL:Tab:=⟨19,[0,0,3,4,8,16,32,64,64,64,960,64,64,6208,8256,16448,33856,65600,196608],[0,0,3,4,8,16,32,64,64,64,960,64,64,6208,8256,16448,33856,65600,131072],[0,0,3,7,15,31,63,127,127,127,1023,127,127,6271,14463,30847,65535,131071,262143]⟩
theorem zDE:qb (rg Tryz.f131 6) zTL=true:=kr
theorem zOr(n:Nat)(x0:Int)(x1:(List Pt))(x2:Int)(r:Int)(H:zAX n x0 x1 x2=some r):zb Tryz.prog 131 [.val false [.lit (.int .i64 x0)],.val false [.sl false 8 (zQ (x1.map zJ))],.val false [.lit (.int .i64 x2)]] [.val false [.lit (.int .i64 r)]] []:=by
 refine cW Tryz.func131 (fun g d=>sl [g 0,sl [g 1] (cn 22 (sl [g 2] .ret) .skip),g 3,.block 0 (sl [g 4] (cn 29 (sl [g 5] .ret) (sl [d 6] (cn 33 (sl [g 7] .ret) .skip)))),g 8] .ret) [.tmp 6] fun cx=>?_
 unfold zAX at H
 refine gA 1 7 0<|tS<|rA 2<|kF x1 zJ<|lA 1<|bE H fun r1 er1 H=>vA [.rd,.rd,.rd] (zf n x2 0 (wI ((x1.length:Int)-1)) r1 er1)<|lA 2 ?_
 obtain⟨h1,H⟩|⟨h1,H⟩:=bC H
 ·refine qL 32775 0 [15] h1<|lA 2<|bE H fun v2 ev2 H=>iA zJ ev2<|uA 4 4194311 0 ?_
  obtain⟨h2,H⟩|⟨h2,H⟩:=bC H
  ·refine nA h2<|tK<|rA 2<|bE H fun r3 er3 H=>vA [.rd,.rd] (zEW n x0 x1 r3 er3)<|LAt.movT tOk (ty:=86) (t:=26) (d:=23) (g:=none) [(true,(zj r3.1)),(false,[cI r3.2])] _ kr (.inl rfl) kr kr kr kr rfl<|uA 5 263 0<|tS<|tB<|gA 4 536870919 0 ?_
   obtain⟨h3,H⟩|⟨h3,H⟩:=bC H
   ·refine nA h3<|bE H fun v4 ev4 H=>sT ⟨52,0,[sB 29 (r3.2==x2),sI 0 x0,sC 1 (cF 8 x1 zJ),sI 2 x2],[]⟩ ?_
    cases h4:(!v4.Has)
    ·have H:=YA h4 H
     refine bE H fun r5 er5 H=>bE H fun v6 ev6 H=>bE H fun r7 er7 H=>zd zr 19 kr ⟨52,0,[sB 33 r7],[]⟩ (fun cx=>?_) ?_
     ·exact mA zDE [(0,[]),(1,[])] 17 [] fun cx=>iN zDE 2 zJ ev4 fun cx=>mA zDE (zl [3,4,5,6]) 12 [] fun cx=>qA 1099511627783 0 [40] h4<|mA zDE (zl [7,8,9,11,12]) 7 [] fun cx=>iN zDE 13 zJ ev6 fun cx=>mA zDE [(14,[]),(15,[])] 4 [] fun cx=>mC zDE 10<|vA [.rd,.rd,.rd] (zHY n x0 x1 x2 r5 er5)<|fA<|mC zDE 16<|vA [.rd,.rd] (zI6 n r5 v6.Hd r7 er7)<|fA<|mA zDE [(17,[]),(18,[])] 0 [] fun cx=>mE zDE [33] []
     cases h5:r7
     ·have H:=YA h5 H
      exact nB_<|tK<|gA 1 64 0<|te (fJ [(false,[cI 3])] H)
     have H:=YB h5 H
     exact tB_<|gA 1 64 0<|te (fJ [(false,[cI 2])] H)
    have H:=YB h4 H
    refine zd zr 19 kr ⟨52,0,[sB 33 true],[]⟩ (fun cx=>?_) ?_
    ·exact mA zDE [(0,[]),(1,[])] 17 [] fun cx=>iN zDE 2 zJ ev4 fun cx=>mA zDE (zl [3,4,5,6]) 12 [] fun cx=>qA 1099511627783 0 [40] h4<|mA zDE (zl [7,8,9,10,11,12,13,14,15,16,17,18]) 0 [] fun cx=>mE zDE [33] []
    exact tB_<|gA 1 64 0<|te (fJ [(false,[cI 2])] H)
   exact tA h3<|gA 1 64 0<|te (fJ [(false,[cI 1])] H)
  exact tA h2<|gA 1 64 0<|te (fJ [(false,[cI 4])] H)
 exact qL 32775 0 [15] h1<|uA 7 4194311 0<|tB_<|gA 1 64 0<|te (fJ [(false,[cI 4])] H)
def zDi(n:Nat)(y3:Int):Option (Int):=
  (some y3)
def Zp(n:Nat):Nat→Int→(List Pt)→Int→Int→Option ((Int)⊕(Int))
  |0,_,_,_,_=>none
  |mo4+1,x0,x1,y1,y2=>(bif (decide (y1<(x1.length:Int)))then(bif (decide (y1<6))then((zAX n x0 x1 y1).bind fun r5=>(bif (decide (r5≤2))then(bif (decide ((0:Int)≤(IntKind.wrap .u64 y1)))then(Zp n mo4 x0 x1 (wI (y1+1)) (wI (bO y2 ||| bO (wI (1*2^min (((IntKind.wrap .u64 y1):Int)).toNat (IntKind.bits .i64)))).toNat))else none)else(Zp n mo4 x0 x1 (wI (y1+1)) y2)))else(some (Sum.inl y2)))else(some (Sum.inl y2)))
def Zs(n:Nat)(x0:Int)(x1:(List Pt)):Option (Int):=
  ((Zp n n x0 x1 0 0).bind fun o=>match o with|.inl y3=>(zDi n y3)|.inr r=>some r)
theorem zMJ(n:Nat)(x0:Int)(x1:(List Pt))(r:Int)(H:Zs n x0 x1=some r):zb Tryz.prog 96 [.val false [.lit (.int .i64 x0)],.val false [.sl false 8 (zQ (x1.map zJ))]] [.val false [.lit (.int .i64 r)]] []:=by
 refine cW Tryz.func96 (fun g d=>sl [g 0,g 1,sl [g 2] (.block 0 (.loop (sl [sl [g 3] (cn 14 .skip (.exit 0)),.block 1 (sl [g 5] (cn 21 (g 6) .skip))] (g 4)))),g 7] .ret) [.tmp 4] fun cx=>?_
 unfold Zs at H
 refine gA 1 3 0<|gA 1 35 0<|tS<|gA 1 99 0 ?_
 obtain⟨o4,eo4,Ho4⟩:=bs H
 clear H
 refine zt (ι:=Int) (fun v=>⟨28,0,[sI 5 v],[]⟩) (fun v=>zDi n v=some r) ?_ ?_
 ·refine tB<|Tr.loop (ι:=Nat×(Int×Int)) (fun v=>⟨28,0,[sI 6 v.2.1,sI 5 v.2.2,sI 0 x0,sC 1 (cF 8 x1 zJ)],[]⟩) (fun v=>Zp n v.1 x0 x1 v.2.1 v.2.2=some o4) (fun v=>v.1) (n,(0,0)) eo4 (za [6,5,0,1] [] kr) ?_
  rintro⟨_|mo4,y1,y2⟩ H
  ·exact nN H
  have H:Zp n (mo4+1) x0 x1 y1 y2=some o4:=H
  rw[Zp]at H
  refine tS<|rA 2<|kF x1 zJ<|lA 2 ?_
  obtain⟨h1,H⟩|⟨h1,H⟩:=bC H
  ·refine qL 2147 0 [11] h1<|uA 3 16483 0<|nB_<|Tr.exit<|aJ ?_
   cases H
   exact jA y2 Ho4 [5] []
  refine qL 2147 0 [11] h1<|uA 3 16483 0 ?_
  obtain⟨h2,H⟩|⟨h2,H⟩:=bC H
  ·refine nA h2<|Tr.exit<|aJ ?_
   cases H
   exact jA y2 Ho4 [5] []
  refine tA h2<|tK<|tS<|tB<|rA 3<|bE H fun r5 er5 H=>vA [.rd,.rd,.rd] (zOr n x0 x1 y1 r5 er5)<|uA 1 2097251 0 ?_
  obtain⟨h3,H⟩|⟨h3,H⟩:=bC H
  ·exact nA h3<|tK<|eA 3 99 0<|jB mo4 ((wI (y1+1)),y2) H [6,5,0,1] []
  exact tA h3<|Tr.at<|lA 3<|gE H fun hg6 H=>Ym tOk (op:=.shl) (t:=3) (ty:=133) (ty':=3) (x:=(.const (.int .i64 1))) (y:=(.tmp 24)) (d:=25) (g:=none) (.int .i64 1) (.int .u64 (IntKind.wrap .u64 y1)) (.int .i64 (wI (1*2^min (((IntKind.wrap .u64 y1):Int)).toNat (IntKind.bits .i64)))) _ kr kr kr kr kr (φ:=(0:Int)≤(IntKind.wrap .u64 y1)) kr (of_decide_eq_true hg6) rfl<|uA 2 99 0<|eA 3 99 0<|jB mo4 ((wI (y1+1)),(wI (bO y2 ||| bO (wI (1*2^min (((IntKind.wrap .u64 y1):Int)).toNat (IntKind.bits .i64)))).toNat)) H [6,5,0,1] []
 rintro y3 H
 have H:(zDi n y3)=some r:=H
 unfold zDi at H
 exact gA 2 16 0<|te (fJ [(false,[cI y3])] H)
def Jl(n:Nat)(x0:Int)(x1:Int):Option (Bool):=
  ((ze n x1 0 7).bind fun r1=>(bif r1 then(bif (decide ((0:Int)≤(IntKind.wrap .u64 x1)))then(some ((wI (bO (Int.fdiv x0 (2^min (((IntKind.wrap .u64 x1):Int)).toNat (IntKind.bits .i64)))&&&bO 1).toNat)==1))else none)else(some false)))
theorem zMN(n:Nat)(x0:Int)(x1:Int)(r:Bool)(H:Jl n x0 x1=some r):zb Tryz.prog 95 [.val false [.lit (.int .i64 x0)],.val false [.lit (.int .i64 x1)]] [.val false [.lit (.bool r)]] []:=by
 refine cW Tryz.func95 (fun g d=>sl [g 0,g 1] .ret) [.tmp 4] fun cx=>?_
 unfold Jl at H
 refine gA 1 3 0<|rA 1<|bE H fun r1 er1 H=>vA [.rd,.rd,.rd] (zf n x1 0 7 r1 er1)<|lA 1 ?_
 obtain⟨h1,H⟩|⟨h1,H⟩:=bC H
 ·exact qL 131 0 [7] h1<|uA 8 16 0<|te (fF H)
 exact qL 131 0 [7] h1<|lA 3<|gE H fun hg2 H=>Ym tOk (op:=.shr) (t:=3) (ty:=133) (ty':=3) (x:=(.tmp 8)) (y:=(.tmp 10)) (d:=11) (g:=(some (2,true))) (.int .i64 x0) (.int .u64 (IntKind.wrap .u64 x1)) (.int .i64 (Int.fdiv x0 (2^min (((IntKind.wrap .u64 x1):Int)).toNat (IntKind.bits .i64)))) _ kr kr kr kr kr (φ:=(0:Int)≤(IntKind.wrap .u64 x1)) kr (of_decide_eq_true hg2) rfl<|uA 4 16 0<|te (fJ [(false,[cB ((wI (bO (Int.fdiv x0 (2^min (((IntKind.wrap .u64 x1):Int)).toNat (IntKind.bits .i64)))&&&bO 1).toNat)==1)])] H)
def JT(n:Nat)(y3:(List zM)):Option ((List zM)):=
  (some y3)
def ZB(n:Nat):Nat→(List zM)→Int→Int→(List zM)→Option (((List zM))⊕((List zM)))
  |0,_,_,_,_=>none
  |mo4+1,x0,x1,y1,y2=>(bif (decide (y1<(x0.length:Int)))then((idx x0 y1).bind fun v5=>(bif v5.Sc then((idx x0 y1).bind fun v9=>(bif (decide (y2.length+ [v9].length≤268435456))then(ZB n mo4 x0 x1 (wI (y1+1)) (y2++[v9]))else none))else((idx x0 y1).bind fun v6=>(bif (v6.Port != x1)then((idx x0 y1).bind fun v7=>(bif (decide (y2.length+ [v7].length≤268435456))then(ZB n mo4 x0 x1 (wI (y1+1)) (y2++[v7]))else none))else(ZB n mo4 x0 x1 (wI (y1+1)) y2)))))else(some (Sum.inl y2)))
def zAd(n:Nat)(x0:(List zM))(x1:Int):Option ((List zM)):=
  ((ZB n n x0 x1 0 ([]:List zM)).bind fun o=>match o with|.inl y3=>(JT n y3)|.inr r=>some r)
theorem zLO(n:Nat)(x0:(List zM))(x1:Int)(r:(List zM))(H:zAd n x0 x1=some r):zb Tryz.prog 153 [.val false [.sl false 5 (zQ (x0.map zG))],.val false [.lit (.int .i64 x1)]] [.val false [.sl true 5 (r.map zG)]] []:=by
 refine cW Tryz.func153 (fun g d=>sl [g 0,g 1,sl [g 2] (.block 0 (.loop (sl [sl [g 3] (cn 11 .skip (.exit 0)),.block 1 (sl [g 5] (cn 27 (g 6) .skip))] (g 4)))),g 7] .ret) [.tmp 4] fun cx=>?_
 unfold zAd at H
 refine gA 1 3 0<|rA 1<|zY (T:=lk tab) (ty:=59) (x:=(.tmp 7)) (d:=5) (g:=none) false [cL 5 ([]:List zM) zG] kr kr kr kr kr<|dA 35 0<|tS<|gA 1 99 0 ?_
 obtain⟨o4,eo4,Ho4⟩:=bs H
 clear H
 refine zt (ι:=(List zM)) (fun v=>⟨36,0,[sC 5 (cL 5 v zG)],[]⟩) (fun v=>JT n v=some r) ?_ ?_
 ·refine tB<|Tr.loop (ι:=Nat×(Int×(List zM))) (fun v=>⟨36,0,[sI 6 v.2.1,sC 5 (cL 5 v.2.2 zG),sC 0 (cF 5 x0 zG),sI 1 x1],[]⟩) (fun v=>ZB n v.1 x0 x1 v.2.1 v.2.2=some o4) (fun v=>v.1) (n,(0,([]:List zM))) eo4 (za [6,5,0,1] [] kr) ?_
  rintro⟨_|mo4,y1,y2⟩ H
  ·exact nN H
  have H:ZB n (mo4+1) x0 x1 y1 y2=some o4:=H
  rw[ZB]at H
  refine tS<|rA 2<|kF x0 zG<|uA 1 2147 0 ?_
  obtain⟨h1,H⟩|⟨h1,H⟩:=bC H
  ·refine nA h1<|Tr.exit<|aJ ?_
   cases H
   exact jA y2 Ho4 [5] []
  refine tA h1<|tK<|tS<|tB<|tS<|Tr.at<|lA 2<|bE H fun v5 ev5 H=>iA zG ev5<|lA 3 ?_
  obtain⟨h2,H⟩|⟨h2,H⟩:=bC H
  ·refine qL 524387 0 [19] h2<|lA 2<|bE H fun v6 ev6 H=>iA zG ev6<|uA 5 134217827 0 ?_
   obtain⟨h3,H⟩|⟨h3,H⟩:=bC H
   ·exact nA h3<|tK<|eA 3 99 0<|jB mo4 ((wI (y1+1)),y2) H [6,5,0,1] []
   exact tA h3<|Tr.at<|lA 3<|bE H fun v7 ev7 H=>iA zG ev7<|lA 2<|gE H fun hg8 H=>qO tOk (t:=59) (ty:=59) (e:=127) (x:=(.tmp 28)) (y:=(.tmp 33)) (d:=34) (g:=none) (tI 127) zG y2 [v7] kr kr kr kr kr kr kr kr kr kr hg8<|zY (T:=lk tab) (ty:=59) (x:=(.tmp 34)) (d:=5) (g:=none) false [cL 5 (y2++[v7]) zG] kr kr kr kr kr<|dA 99 0<|eA 3 99 0<|jB mo4 ((wI (y1+1)),(y2++[v7])) H [6,5,0,1] []
  exact qL 524387 0 [19] h2<|uA 8 134217827 0<|tB_<|Tr.at<|lA 3<|bE H fun v9 ev9 H=>iA zG ev9<|lA 2<|gE H fun hg10 H=>qO tOk (t:=59) (ty:=59) (e:=127) (x:=(.tmp 28)) (y:=(.tmp 33)) (d:=34) (g:=none) (tI 127) zG y2 [v9] kr kr kr kr kr kr kr kr kr kr hg10<|zY (T:=lk tab) (ty:=59) (x:=(.tmp 34)) (d:=5) (g:=none) false [cL 5 (y2++[v9]) zG] kr kr kr kr kr<|dA 99 0<|eA 3 99 0<|jB mo4 ((wI (y1+1)),(y2++[v9])) H [6,5,0,1] []
 rintro y3 H
 have H:(JT n y3)=some r:=H
 unfold JT at H
 exact gA 2 48 0<|te (fJ [(false,[cL 5 y3 zG])] H)
def zA6(n:Nat)(r1:Int)(x0:zA)(y5:(List zM)):Option (zA):=
  (some (⟨x0.Id,x0.Name,x0.Ps,y5,x0.V,x0.Tk,x0.Pa,x0.Wo,x0.Dr,r1⟩:zA))
def qm(n:Nat):Nat→Int→zA→Int→(List zM)→Option (((List zM))⊕(zA))
  |0,_,_,_,_=>none
  |mo6+1,r2,x0,y3,y4=>(bif (decide (y3<(x0.Ps.length:Int)))then((Jl n r2 y3).bind fun r7=>(bif (!r7)then((zAd n y4 y3).bind fun r8=>(qm n mo6 r2 x0 (wI (y3+1)) r8))else(qm n mo6 r2 x0 (wI (y3+1)) y4)))else(some (Sum.inl y4)))
def ZK(n:Nat)(x0:zA):Option (zA):=
  ((zAY n x0.Ve).bind fun r1=>((Zs n x0.Id x0.Ps).bind fun r2=>((qm n n r2 x0 0 x0.F).bind fun o=>match o with|.inl y5=>(zA6 n r1 x0 y5)|.inr r=>some r)))
theorem zEu(n:Nat)(x0:zA)(r:zA)(H:ZK n x0=some r):zb Tryz.prog 120 [.own true (zB x0)] [.val true (zB r)] []:=by
 refine cW Tryz.func120 (fun g d=>sl [g 0,g 1,g 2,sl [g 3] (.block 0 (.loop (sl [sl [g 4] (cn 18 .skip (.exit 0)),.block 1 (sl [g 6] (cn 24 (g 7) .skip))] (g 5)))),g 8] .ret) [.cell 2 64] fun cx=>?_
 unfold ZK at H
 refine gA 2 6 6<|rA 2<|bE H fun r1 er1 H=>vA [.rd] (zKW n x0.Ve r1 er1)<|uA 2 6 6<|rA 4<|bE H fun r2 er2 H=>vB [.rd,.rd] [.box 1] (zMJ n x0.Id x0.Ps r2 er2) (.inr (zN (zH zT zR) zS))<|uA 1 14 6<|tS<|gA 1 30 6 ?_
 obtain⟨o6,eo6,Ho6⟩:=bs H
 clear H
 refine zt (ι:=(List zM)) (fun v=>⟨31,0,[sA 2 2 11 0,sA 1 1 11 0],[(1,[cI x0.Id,cS x0.Name,cL 8 x0.Ps zJ,cL 5 v zG,cL 3 x0.V.Rows zF,cL 1 x0.V.Pv zC,cI x0.Tk,cI x0.Pa,cI x0.Wo,cI x0.Dr,cI r1]),(2,[cI 0,cS (⟨#[]⟩:ByteArray),cL 8 ([]:List Pt) zJ,cL 5 ([]:List zM) zG,cL 3 ([]:List zX) zF,cL 1 ([]:List Int) zC,cI 0,cI 0,cI 0,cI 0,cI 0])]⟩) (fun v=>zA6 n r1 x0 v=some r) ?_ ?_
 ·refine tB<|Tr.loop (ι:=Nat×(Int×(List zM))) (fun v=>⟨31,0,[sI 4 v.2.1,sI 3 r2,sA 2 2 11 0,sA 1 1 11 0],[(1,[cI x0.Id,cS x0.Name,cL 8 x0.Ps zJ,cL 5 v.2.2 zG,cL 3 x0.V.Rows zF,cL 1 x0.V.Pv zC,cI x0.Tk,cI x0.Pa,cI x0.Wo,cI x0.Dr,cI r1]),(2,[cI 0,cS (⟨#[]⟩:ByteArray),cL 8 ([]:List Pt) zJ,cL 5 ([]:List zM) zG,cL 3 ([]:List zX) zF,cL 1 ([]:List Int) zC,cI 0,cI 0,cI 0,cI 0,cI 0])]⟩) (fun v=>qm n v.1 r2 x0 v.2.1 v.2.2=some o6) (fun v=>v.1) (n,(0,x0.F)) eo6 (za [4,3,2,1] [1,2] kr) ?_
  rintro⟨_|mo6,y3,y4⟩ H
  ·exact nN H
  have H:qm n (mo6+1) r2 x0 y3 y4=some o6:=H
  rw[qm]at H
  refine tS<|rA 3<|kO x0.Ps zJ<|uA 1 262174 6 ?_
  obtain⟨h1,H⟩|⟨h1,H⟩:=bC H
  ·refine nA h1<|Tr.exit<|aJ ?_
   cases H
   exact jA y4 Ho6 [2,1] [1,2]
  refine tA h1<|tK<|tS<|tB<|rA 2<|bE H fun r7 er7 H=>vA [.rd,.rd] (zMN n r2 y3 r7 er7)<|uA 1 16777246 6 ?_
  obtain⟨h2,H⟩|⟨h2,H⟩:=bC H
  ·exact nA h2<|tK<|eA 3 30 6<|jB mo6 ((wI (y3+1)),y4) H [4,3,2,1] [1,2]
  exact tA h2<|Tr.at<|lA 3<|bE H fun r8 er8 H=>vB [.rd,.rd] [.box 1] (zLO n y4 y3 r8 er8) (.inr (zN (zH (qf (z7 Jw _)) zR) zS))<|uA 2 30 6<|eA 3 30 6<|jB mo6 ((wI (y3+1)),r8) H [4,3,2,1] [1,2]
 rintro y5 H
 have H:(zA6 n r1 x0 y5)=some r:=H
 unfold zA6 at H
 exact gA 2 4 4<|te (fJ [(true,[cI x0.Id,cS x0.Name,cL 8 x0.Ps zJ,cL 5 y5 zG,cL 3 x0.V.Rows zF,cL 1 x0.V.Pv zC,cI x0.Tk,cI x0.Pa,cI x0.Wo,cI x0.Dr,cI r1])] H)
end Go.Proofs.YticeglbllcelaaaGreat.Tw
