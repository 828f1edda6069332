import Derived.Test.YtibocmoaaahjfaaGreatProg
import Derived.Test.YtibocmoaaahjfaaGreatTlRule
import Derived.Test.YtibocmoaaahjfaaGreatTlU8
import Derived.WalkKit
set_option linter.unusedVariables false
set_option linter.unusedSimpArgs false
set_option maxRecDepth 100000
set_option maxHeartbeats 1000000
namespace Go.Proofs.YtibocmoaaahjfaaGreat.Tw
open Go Go.TL Go.Proofs
def tab : List (Nat × TI) := [(2,⟨.int .i64,1,8,[.lit (.int .i64 0)]⟩),
  (3,⟨.int .i64,1,8,[.lit (.int .i64 0)]⟩),
  (4,⟨.bool,1,1,[.lit (.bool false)]⟩),
  (5,⟨.int .u8,1,1,[.lit (.int .u8 0)]⟩),
  (6,⟨.int .u8,1,1,[.lit (.int .u8 0)]⟩),
  (7,⟨.st [(0,1,2),(1,1,3),(2,1,4),(3,1,6)],4,24,[.lit (.int .i64 0),.lit (.int .i64 0),.lit (.bool false),.lit (.int .u8 0)]⟩),
  (8,⟨.st [(0,1,2),(1,1,3),(2,1,4),(3,1,6)],4,24,[.lit (.int .i64 0),.lit (.int .i64 0),.lit (.bool false),.lit (.int .u8 0)]⟩),
  (9,⟨.str,1,16,[.lit (.string ⟨#[]⟩)]⟩),
  (22,⟨.sl 3,1,24,[.sl true 1 []]⟩),
  (23,⟨.sl 130,1,24,[.sl true 4 []]⟩),
  (25,⟨.sl 58,1,24,[.sl true 11 []]⟩),
  (26,⟨.sl 126,1,24,[.sl true 4 []]⟩),
  (27,⟨.sl 195,1,24,[.sl true 7 []]⟩),
  (29,⟨.st [(0,1,25),(1,1,26),(2,1,27)],3,72,[.sl true 11 [],.sl true 4 [],.sl true 7 []]⟩),
  (40,⟨.sl 216,1,24,[.sl true 8 []]⟩),
  (41,⟨.sl 218,1,24,[.sl true 5 []]⟩),
  (42,⟨.sl 251,1,24,[.sl true 3 []]⟩),
  (44,⟨.st [(0,1,42),(1,1,22)],2,48,[.sl true 3 [],.sl true 1 []]⟩),
  (46,⟨.st [(0,1,3),(1,1,9),(2,1,40),(3,1,41),(4,2,44),(6,1,3),(7,1,3),(8,1,3),(9,1,3),(10,1,3)],11,160,[.lit (.int .i64 0),.lit (.string ⟨#[]⟩),.sl true 8 [],.sl true 5 [],.sl true 3 [],.sl true 1 [],.lit (.int .i64 0),.lit (.int .i64 0),.lit (.int .i64 0),.lit (.int .i64 0),.lit (.int .i64 0)]⟩),
  (47,⟨.sl 5,1,24,[.sl true 1 []]⟩),
  (52,⟨.sl 182,1,24,[.sl true 8 []]⟩),
  (53,⟨.sl 184,1,24,[.sl true 5 []]⟩),
  (54,⟨.sl 190,1,24,[.sl true 3 []]⟩),
  (56,⟨.st [(0,1,54),(1,1,22)],2,48,[.sl true 3 [],.sl true 1 []]⟩),
  (58,⟨.st [(0,1,3),(1,1,9),(2,1,52),(3,1,53),(4,2,56),(6,1,3),(7,1,3),(8,1,3),(9,1,3),(10,1,3)],11,160,[.lit (.int .i64 0),.lit (.string ⟨#[]⟩),.sl true 8 [],.sl true 5 [],.sl true 3 [],.sl true 1 [],.lit (.int .i64 0),.lit (.int .i64 0),.lit (.int .i64 0),.lit (.int .i64 0),.lit (.int .i64 0)]⟩),
  (72,⟨.sl 46,1,24,[.sl true 11 []]⟩),
  (73,⟨.sl 228,1,24,[.sl true 7 []]⟩),
  (75,⟨.st [(0,1,72),(1,1,23),(2,1,73)],3,72,[.sl true 11 [],.sl true 4 [],.sl true 7 []]⟩),
  (126,⟨.st [(0,1,3),(1,1,3),(2,1,3),(3,1,3)],4,32,[.lit (.int .i64 0),.lit (.int .i64 0),.lit (.int .i64 0),.lit (.int .i64 0)]⟩),
  (130,⟨.st [(0,1,3),(1,1,3),(2,1,3),(3,1,3)],4,32,[.lit (.int .i64 0),.lit (.int .i64 0),.lit (.int .i64 0),.lit (.int .i64 0)]⟩),
  (145,⟨.int .u64,1,8,[.lit (.int .u64 0)]⟩),
  (162,⟨.st [(0,1,3),(1,1,3),(2,1,3),(3,1,3),(4,1,3)],5,40,[.lit (.int .i64 0),.lit (.int .i64 0),.lit (.int .i64 0),.lit (.int .i64 0),.lit (.int .i64 0)]⟩),
  (182,⟨.st [(0,1,4),(1,1,3),(2,1,4),(3,5,162)],8,64,[.lit (.bool false),.lit (.int .i64 0),.lit (.bool false),.lit (.int .i64 0),.lit (.int .i64 0),.lit (.int .i64 0),.lit (.int .i64 0),.lit (.int .i64 0)]⟩),
  (184,⟨.st [(0,1,3),(1,1,3),(2,1,3),(3,1,3),(4,1,4)],5,40,[.lit (.int .i64 0),.lit (.int .i64 0),.lit (.int .i64 0),.lit (.int .i64 0),.lit (.bool false)]⟩),
  (190,⟨.st [(0,1,3),(1,1,3),(2,1,3)],3,24,[.lit (.int .i64 0),.lit (.int .i64 0),.lit (.int .i64 0)]⟩),
  (195,⟨.st [(0,1,3),(1,1,4),(2,5,162)],7,56,[.lit (.int .i64 0),.lit (.bool false),.lit (.int .i64 0),.lit (.int .i64 0),.lit (.int .i64 0),.lit (.int .i64 0),.lit (.int .i64 0)]⟩),
  (214,⟨.st [(0,1,3),(1,1,3),(2,1,3),(3,1,3),(4,1,3)],5,40,[.lit (.int .i64 0),.lit (.int .i64 0),.lit (.int .i64 0),.lit (.int .i64 0),.lit (.int .i64 0)]⟩),
  (216,⟨.st [(0,1,4),(1,1,3),(2,1,4),(3,5,214)],8,64,[.lit (.bool false),.lit (.int .i64 0),.lit (.bool false),.lit (.int .i64 0),.lit (.int .i64 0),.lit (.int .i64 0),.lit (.int .i64 0),.lit (.int .i64 0)]⟩),
  (218,⟨.st [(0,1,3),(1,1,3),(2,1,3),(3,1,3),(4,1,4)],5,40,[.lit (.int .i64 0),.lit (.int .i64 0),.lit (.int .i64 0),.lit (.int .i64 0),.lit (.bool false)]⟩),
  (228,⟨.st [(0,1,3),(1,1,4),(2,5,214)],7,56,[.lit (.int .i64 0),.lit (.bool false),.lit (.int .i64 0),.lit (.int .i64 0),.lit (.int .i64 0),.lit (.int .i64 0),.lit (.int .i64 0)]⟩),
  (251,⟨.st [(0,1,3),(1,1,3),(2,1,3)],3,24,[.lit (.int .i64 0),.lit (.int .i64 0),.lit (.int .i64 0)]⟩)]
def tI (t : Nat) : TI := (lk tab t).getD ⟨.bool,1,1,[]⟩
theorem mixed : Tryz.prog.follows .mixedOrders = true := by kernel_rfl
theorem tOk : TOk Tryz.prog (lk tab) := tok_of (by kernel_rfl)
theorem lU {cx : Cx} {ops : Array Oper} {i : Nat} {st : St} {K : St → Prop} (n : Nat) (h : (runI (lk tab) ops i n st).isSome = true) (hk : LAt Tryz.prog cx ops (i + n) (runSt (lk tab) ops i n st) K) : LAt Tryz.prog cx ops i st K := Go.TL.lU tOk n h hk
theorem uD {cx : Cx} {ops : Array Oper} {i : Nat} {st : St} {K : St → Prop} (n m b : Nat) (h : (runI (lk tab) ops i n st).isSome = true) (h2 : Nat.ble ops.size (i + n) = true) (hk : K ((runSt (lk tab) ops i n st).onlyM m b)) : LAt Tryz.prog cx ops i st K := Go.TL.uD tOk n m b h h2 hk
theorem rU {cx : Cx} {st : St} {id : Nat} {ops : Array Oper} {c : Code} {Q : Exit → St → Prop} (n : Nat) (h : (runI (lk tab) ops 0 n st).isSome = true) (hk : LAt Tryz.prog cx ops (0 + n) (runSt (lk tab) ops 0 n st) (fun st' => Tr Tryz.prog cx c st' Q)) : Tr Tryz.prog cx (.seq (.region id ops false) c) st Q := Go.TL.rU tOk n h hk
theorem tG {cx : Cx} {st : St} {id : Nat} {ops : Array Oper} {c : Code} {Q : Exit → St → Prop} (n m b : Nat) (h1 : (runI (lk tab) ops 0 n st).isSome = true) (h2 : Nat.ble ops.size (0 + n) = true) (hk : Tr Tryz.prog cx c ((runSt (lk tab) ops 0 n st).onlyM m b) Q) : Tr Tryz.prog cx (.seq (.region id ops false) c) st Q := Go.TL.tG tOk n m b h1 h2 hk
theorem tE {cx : Cx} {st : St} {id : Nat} {ops : Array Oper} {Q : Exit → St → Prop} (n m b : Nat) (h1 : (runI (lk tab) ops 0 n st).isSome = true) (h2 : Nat.ble ops.size (0 + n) = true) (hk : Q .normal ((runSt (lk tab) ops 0 n st).onlyM m b)) : Tr Tryz.prog cx (.region id ops false) st Q := Go.TL.tE tOk n m b h1 h2 hk
theorem aU {cx : Cx} {ops : Array Oper} {K : St → Prop} {m : Nat} {ps : List Pin} {E : List Nat} {st : St} (l : List (Nat × List Nat)) (n : Nat) (ps' : List Pin) (E' : List Nat) (hn : n + l.length = m) (h : (runA (lk tab) ops l ps E st).map (fun x => (x.1,x.2.1)) = some (ps',E')) (hk : ∀ cx',AT Tryz.prog cx' ops ps' n E' (runASt (lk tab) ops l ps E st) K) : AT Tryz.prog cx ops ps m E st K := Go.TL.aU tOk l n ps' E' hn h hk
theorem lL {cx : Cx} {ops : Array Oper} {n : Nat} {st : St} {K : St → Prop} (t ty e : TypeId) (x d : Nat) (g : Option (Nat × Bool)) (s : SlAt) (l : Nat) (st' : St) (hop : opAt ops n = some (.call { callee := .builtin .len,args := #[.tmp x],argTypes := #[t] },some d,ty,g)) (hg : gdT ops st g = true) (hd : okDb st d = true) (ht : isSl (lk tab) t = some e) (hx : slS st (.tmp x) = some s) (hl : s.es.length = l) (hst : st.put d (.val false [.lit (.int .i64 l)]) = st') (hk : LAt Tryz.prog cx ops (n + 1) st' K) : LAt Tryz.prog cx ops n st K := Go.TL.lL tOk t ty e x d g s l st' hop hg hd ht hx hl hst hk
theorem lI {cx : Cx} {ops : Array Oper} {n : Nat} {st : St} {K : St → Prop} (t ty : TypeId) (x y d : Nat) (g : Option (Nat × Bool)) (s : SlAt) (i : Int) (e : List CV) (st' : St) (hop : opAt ops n = some (.indexAddr t (.tmp x) (.tmp y),some d,ty,g)) (hg : gdT ops st g = true) (hd : okDb st d = true) (hq : idxS (lk tab) st t (.tmp x) (.tmp y) = some (s,i)) (hown : s.own = false) (hi : IsE s.es i e) (hst : st.put d (.fad e) = st') (hk : LAt Tryz.prog cx ops (n + 1) st' K) : LAt Tryz.prog cx ops n st K := Go.TL.lI tOk t ty x y d g s i e st' hop hg hd hq hown hi hst hk
theorem lO {cx : Cx} {ops : Array Oper} {n : Nat} {st : St} {K : St → Prop} (t ty : TypeId) (x y d : Nat) (g : Option (Nat × Bool)) (s : SlAt) (i : Int) (j : Nat) (e : List CV) (st' : St) (hop : opAt ops n = some (.indexAddr t (.tmp x) (.tmp y),some d,ty,g)) (hg : gdT ops st g = true) (hd : okDb st d = true) (hq : idxS (lk tab) st t (.tmp x) (.tmp y) = some (s,i)) (hown : s.own = true) (hr : s.r.eqb (.slot d) = false) (hi : IsE s.es i e) (hj : i.toNat = j) (hst : st.put d (.adr s.r (s.q ++ [(s.o,j)]) s.sz 0) = st') (hk : LAt Tryz.prog cx ops (n + 1) st' K) : LAt Tryz.prog cx ops n st K := Go.TL.lO tOk t ty x y d g s i j e st' hop hg hd hq hown hr hi hj hst hk
theorem aL {cx : Cx} {ops : Array Oper} {ps : List Pin} {n : Nat} {E : List Nat} {st : St} {K : St → Prop} (i : Nat) (t ty e : TypeId) (x d : Nat) (g : Option (Nat × Bool)) (s : SlAt) (l : Nat) (st' : St) (hop : opAt ops i = some (.call { callee := .builtin .len,args := #[.tmp x],argTypes := #[t] },some d,ty,g)) (hok : okE ops ps E i [] = true) (hdB : dstB ps (lsd ops E) (some d) = true) (hg : gdT ops st g = true) (hd : okDb st d = true) (ht : isSl (lk tab) t = some e) (hx : slS st (.tmp x) = some s) (hl : s.es.length = l) (hst : st.put d (.val false [.lit (.int .i64 l)]) = st') (h2 : ∀ cx',AT Tryz.prog cx' ops ps n (i :: E) st' K) : AT Tryz.prog cx ops ps (n + 1) E st K := Go.TL.aL tOk i t ty e x d g s l st' hop hok hdB hg hd ht hx hl hst h2
theorem aI {cx : Cx} {ops : Array Oper} {ps : List Pin} {n : Nat} {E : List Nat} {st : St} {K : St → Prop} (i : Nat) (t ty : TypeId) (x y d : Nat) (g : Option (Nat × Bool)) (s : SlAt) (v : Int) (e : List CV) (st' : St) (hop : opAt ops i = some (.indexAddr t (.tmp x) (.tmp y),some d,ty,g)) (hok : okE ops ps E i [] = true) (hdB : dstB ps (lsd ops E) (some d) = true) (hg : gdT ops st g = true) (hd : okDb st d = true) (hq : idxS (lk tab) st t (.tmp x) (.tmp y) = some (s,v)) (hown : s.own = false) (hi : IsE s.es v e) (hst : st.put d (.fad e) = st') (h2 : ∀ cx',AT Tryz.prog cx' ops ps n (i :: E) st' K) : AT Tryz.prog cx ops ps (n + 1) E st K := Go.TL.aI tOk i t ty x y d g s v e st' hop hok hdB hg hd hq hown hi hst h2
theorem aO {cx : Cx} {ops : Array Oper} {ps : List Pin} {n : Nat} {E : List Nat} {st : St} {K : St → Prop} (i : Nat) (t ty : TypeId) (x y d : Nat) (g : Option (Nat × Bool)) (s : SlAt) (v : Int) (j : Nat) (e : List CV) (st' : St) (hop : opAt ops i = some (.indexAddr t (.tmp x) (.tmp y),some d,ty,g)) (hok : okE ops ps E i [] = true) (hdB : dstB ps (lsd ops E) (some d) = true) (hg : gdT ops st g = true) (hd : okDb st d = true) (hq : idxS (lk tab) st t (.tmp x) (.tmp y) = some (s,v)) (hown : s.own = true) (hr : s.r.eqb (.slot d) = false) (hi : IsE s.es v e) (hj : v.toNat = j) (hst : st.put d (.adr s.r (s.q ++ [(s.o,j)]) s.sz 0) = st') (h2 : ∀ cx',AT Tryz.prog cx' ops ps n (i :: E) st' K) : AT Tryz.prog cx ops ps (n + 1) E st K := Go.TL.aO tOk i t ty x y d g s v j e st' hop hok hdB hg hd hq hown hr hi hj hst h2
theorem lV {cx : Cx} {ops : Array Oper} {i : Nat} {st : St} {K : St → Prop} (ms : List TL.Mode) (brs : List Root) {f : FuncId} {ps : List PArg} {rets : List Ret} (hL : LCall Tryz.prog f ps rets []) (hop : opAt ops i = some (.call { callee := .value (.func f),args := callA ops i,argTypes := callT ops i },opD ops i,opY ops i,opG ops i)) (hg : gdT ops st (opG ops i) = true) (hd : dB st (opD ops i) = true) (hq : (callB (lk tab) ms (callA ops i).toList (callT ops i).toList (opD ops i) rets st).map (fun x => (x.1,x.2.1)) = some (ps,brs)) (hmine : brs = [] ∨ ∀ r ∈ rets,r.mine) (hk : LAt Tryz.prog cx ops (i + 1) (callSt (lk tab) ms (callA ops i).toList (callT ops i).toList (opD ops i) rets st) K) : LAt Tryz.prog cx ops i st K := Go.TL.lV tOk ms brs hL hop hg hd hq hmine hk
theorem lW {cx : Cx} {ops : Array Oper} {n : Nat} {st : St} {K : St → Prop} {t ty : TypeId} {ad x : Operand} {g : Option (Nat × Bool)} (i : TI) (ag : Bool) (tcs : List CV) (k : Nat) (o2 j m o sz : Nat) {α : Type} (L : List α) (row : α → List CV) (el new : α) (hop : opAt ops n = some (.store t ad x,none,ty,g)) (hg : gdT ops st g = true) (ht : (lk tab) t = some i) (hx : (takeS (lk tab) st t x).map (fun tk => (tk.ag,tk.cs)) = some (ag,tcs)) (hl : (tcs.length == i.size) = true) (ha : adrAt (tkSt (lk tab) st t x) ad = some (.slot k,[(o2,j)],m,o,rowC (tkSt (lk tab) st t x) (.slot k))) (hrr : rootRow (tkSt (lk tab) st t x) (.slot k) = some (rowC (tkSt (lk tab) st t x) (.slot k))) (hc : (rowC (tkSt (lk tab) st t x) (.slot k))[o2]? = some (.sl true sz (L.map row))) (he : L[j]? = some el) (hm : (row el).length = m) (hle : Nat.ble (o + i.size) m = true) (hf : setAt o tcs (row el) = row new) (hst : ((tkSt (lk tab) st t x).modRK (CV.flatRow tcs) (.slot k) 1 ((rowC (tkSt (lk tab) st t x) (.slot k)).set o2 (.sl true sz ((L.set j new).map row)))).isSome = true) (hk : LAt Tryz.prog cx ops (n + 1) (storeSt (CV.flatRow tcs) (tkSt (lk tab) st t x) (.slot k) 1 o2 (.sl true sz ((L.set j new).map row))) K) : LAt Tryz.prog cx ops n st K := Go.TL.lW tOk i ag tcs k o2 j m o sz L row el new hop hg ht hx hl ha hrr hc he hm hle hf hst hk
theorem b1 {cx : Cx} {ops : Array Oper} {ps : List Pin} {n : Nat} {E : List Nat} {st : St} {K : St → Prop} (i : Nat) (hr : Region.ready .any ops (lsd ops E) = [i]) (hb : bigB ops ps E i = true) (h : LAt Tryz.prog cx (takeA ops (i + 1)) i st (fun st' => (ps.map (pinL st' (lsd ops (i :: E))) = ps.map (pinR (lk tab) st' (lsd ops (i :: E))) ∧ (ps.all fun p => (pinR (lk tab) st' (lsd ops (i :: E)) p).isSome) = true) ∧ AT Tryz.prog cx ops ps n (i :: E) st' K)) : AT Tryz.prog cx ops ps (n + 1) E st K := Go.TL.b1 tOk i hr hb h
structure Vec where
  Root : Int
  Cost : Int
  Hops : Int
  Bridge : Int
  Port : Int
def Vec.row (v : Vec) : List CV := [.lit (.int .i64 v.Root),.lit (.int .i64 v.Cost),.lit (.int .i64 v.Hops),.lit (.int .i64 v.Bridge),.lit (.int .i64 v.Port)]
def Vec.wf (v : Vec) : Prop := intWf v.Root ∧ intWf v.Cost ∧ intWf v.Hops ∧ intWf v.Bridge ∧ intWf v.Port ∧ True
theorem Vec.enc : Enc Vec [.int .i64,.int .i64,.int .i64,.int .i64,.int .i64] Vec.row Vec.wf := fun cs h => by
  obtain ⟨c0,r0,rfl,k0,h⟩ := fitR_cons h
  obtain ⟨c1,r1,rfl,k1,h⟩ := fitR_cons h
  obtain ⟨c2,r2,rfl,k2,h⟩ := fitR_cons h
  obtain ⟨c3,r3,rfl,k3,h⟩ := fitR_cons h
  obtain ⟨c4,r4,rfl,k4,h⟩ := fitR_cons h
  obtain rfl := fitR_nil h
  obtain ⟨x0,rfl,w0⟩ := fitC_int k0
  obtain ⟨x1,rfl,w1⟩ := fitC_int k1
  obtain ⟨x2,rfl,w2⟩ := fitC_int k2
  obtain ⟨x3,rfl,w3⟩ := fitC_int k3
  obtain ⟨x4,rfl,w4⟩ := fitC_int k4
  exact ⟨⟨x0,x1,x2,x3,x4⟩,rfl,⟨w0,w1,w2,w3,w4,trivial⟩⟩
theorem Vec.row_mine (v : Vec) : CV.mineRow (Vec.row v) := mine_cons mine_lit (mine_cons mine_lit (mine_cons mine_lit (mine_cons mine_lit (mine_cons mine_lit (mine_nil)))))
structure Pt where
  Up : Bool
  Cost : Int
  Has : Bool
  Heard : Vec
def Pt.row (v : Pt) : List CV := [.lit (.bool v.Up),.lit (.int .i64 v.Cost),.lit (.bool v.Has),.lit (.int .i64 v.Heard.Root),.lit (.int .i64 v.Heard.Cost),.lit (.int .i64 v.Heard.Hops),.lit (.int .i64 v.Heard.Bridge),.lit (.int .i64 v.Heard.Port)]
def Pt.wf (v : Pt) : Prop := intWf v.Cost ∧ intWf v.Heard.Root ∧ intWf v.Heard.Cost ∧ intWf v.Heard.Hops ∧ intWf v.Heard.Bridge ∧ intWf v.Heard.Port ∧ True
theorem Pt.enc : Enc Pt [.bool,.int .i64,.bool,.int .i64,.int .i64,.int .i64,.int .i64,.int .i64] Pt.row Pt.wf := fun cs h => by
  obtain ⟨c0,r0,rfl,k0,h⟩ := fitR_cons h
  obtain ⟨c1,r1,rfl,k1,h⟩ := fitR_cons h
  obtain ⟨c2,r2,rfl,k2,h⟩ := fitR_cons h
  obtain ⟨c3,r3,rfl,k3,h⟩ := fitR_cons h
  obtain ⟨c4,r4,rfl,k4,h⟩ := fitR_cons h
  obtain ⟨c5,r5,rfl,k5,h⟩ := fitR_cons h
  obtain ⟨c6,r6,rfl,k6,h⟩ := fitR_cons h
  obtain ⟨c7,r7,rfl,k7,h⟩ := fitR_cons h
  obtain rfl := fitR_nil h
  obtain ⟨x0,rfl⟩ := fitC_bool k0
  obtain ⟨x1,rfl,w1⟩ := fitC_int k1
  obtain ⟨x2,rfl⟩ := fitC_bool k2
  obtain ⟨x3,rfl,w3⟩ := fitC_int k3
  obtain ⟨x4,rfl,w4⟩ := fitC_int k4
  obtain ⟨x5,rfl,w5⟩ := fitC_int k5
  obtain ⟨x6,rfl,w6⟩ := fitC_int k6
  obtain ⟨x7,rfl,w7⟩ := fitC_int k7
  exact ⟨⟨x0,x1,x2,⟨x3,x4,x5,x6,x7⟩⟩,rfl,⟨w1,w3,w4,w5,w6,w7,trivial⟩⟩
theorem Pt.row_mine (v : Pt) : CV.mineRow (Pt.row v) := mine_cons mine_lit (mine_cons mine_lit (mine_cons mine_lit (mine_cons mine_lit (mine_cons mine_lit (mine_cons mine_lit (mine_cons mine_lit (mine_cons mine_lit (mine_nil))))))))
structure Fent where
  Tag : Int
  Mac : Int
  Port : Int
  Age : Int
  Static : Bool
def Fent.row (v : Fent) : List CV := [.lit (.int .i64 v.Tag),.lit (.int .i64 v.Mac),.lit (.int .i64 v.Port),.lit (.int .i64 v.Age),.lit (.bool v.Static)]
def Fent.wf (v : Fent) : Prop := intWf v.Tag ∧ intWf v.Mac ∧ intWf v.Port ∧ intWf v.Age ∧ True
theorem Fent.enc : Enc Fent [.int .i64,.int .i64,.int .i64,.int .i64,.bool] Fent.row Fent.wf := fun cs h => by
  obtain ⟨c0,r0,rfl,k0,h⟩ := fitR_cons h
  obtain ⟨c1,r1,rfl,k1,h⟩ := fitR_cons h
  obtain ⟨c2,r2,rfl,k2,h⟩ := fitR_cons h
  obtain ⟨c3,r3,rfl,k3,h⟩ := fitR_cons h
  obtain ⟨c4,r4,rfl,k4,h⟩ := fitR_cons h
  obtain rfl := fitR_nil h
  obtain ⟨x0,rfl,w0⟩ := fitC_int k0
  obtain ⟨x1,rfl,w1⟩ := fitC_int k1
  obtain ⟨x2,rfl,w2⟩ := fitC_int k2
  obtain ⟨x3,rfl,w3⟩ := fitC_int k3
  obtain ⟨x4,rfl⟩ := fitC_bool k4
  exact ⟨⟨x0,x1,x2,x3,x4⟩,rfl,⟨w0,w1,w2,w3,trivial⟩⟩
theorem Fent.row_mine (v : Fent) : CV.mineRow (Fent.row v) := mine_cons mine_lit (mine_cons mine_lit (mine_cons mine_lit (mine_cons mine_lit (mine_cons mine_lit (mine_nil)))))
structure Vrow where
  Id : Int
  Members : Int
  Bare : Int
def Vrow.row (v : Vrow) : List CV := [.lit (.int .i64 v.Id),.lit (.int .i64 v.Members),.lit (.int .i64 v.Bare)]
def Vrow.wf (v : Vrow) : Prop := intWf v.Id ∧ intWf v.Members ∧ intWf v.Bare ∧ True
theorem Vrow.enc : Enc Vrow [.int .i64,.int .i64,.int .i64] Vrow.row Vrow.wf := fun cs h => by
  obtain ⟨c0,r0,rfl,k0,h⟩ := fitR_cons h
  obtain ⟨c1,r1,rfl,k1,h⟩ := fitR_cons h
  obtain ⟨c2,r2,rfl,k2,h⟩ := fitR_cons h
  obtain rfl := fitR_nil h
  obtain ⟨x0,rfl,w0⟩ := fitC_int k0
  obtain ⟨x1,rfl,w1⟩ := fitC_int k1
  obtain ⟨x2,rfl,w2⟩ := fitC_int k2
  exact ⟨⟨x0,x1,x2⟩,rfl,⟨w0,w1,w2,trivial⟩⟩
theorem Vrow.row_mine (v : Vrow) : CV.mineRow (Vrow.row v) := mine_cons mine_lit (mine_cons mine_lit (mine_cons mine_lit (mine_nil)))
structure Vtab where
  Rows : (List Vrow)
  Pvid : (List Int)
def Vtab.row (v : Vtab) : List CV := [.sl true 3 (v.Rows.map Vrow.row),.sl true 1 (v.Pvid.map intRow)]
def Vtab.wf (v : Vtab) : Prop := listWf Vrow.wf v.Rows ∧ listWf intWf v.Pvid ∧ True
theorem Vtab.enc : Enc Vtab [.sl 3 [.int .i64,.int .i64,.int .i64],.sl 1 [.int .i64]] Vtab.row Vtab.wf := fun cs h => by
  obtain ⟨c0,r0,rfl,k0,h⟩ := fitR_cons h
  obtain ⟨c1,r1,rfl,k1,h⟩ := fitR_cons h
  obtain rfl := fitR_nil h
  obtain ⟨x0,rfl,w0⟩ := Enc.sl Vrow.enc k0
  obtain ⟨x1,rfl,w1⟩ := Enc.sl encInt k1
  exact ⟨⟨x0,x1⟩,rfl,⟨w0,w1,trivial⟩⟩
theorem Vtab.row_mine (v : Vtab) : CV.mineRow (Vtab.row v) := mine_cons (mine_sl (mine_map Vrow.row_mine _)) (mine_cons (mine_sl (mine_map intRow_mine _)) (mine_nil))
structure Bridge where
  Id : Int
  Name : ByteArray
  Ports : (List Pt)
  F : (List Fent)
  V : Vtab
  Ticks : Int
  Parse : Int
  Word : Int
  Drops : Int
  Vers : Int
def Bridge.row (v : Bridge) : List CV := [.lit (.int .i64 v.Id),.lit (.string v.Name),.sl true 8 (v.Ports.map Pt.row),.sl true 5 (v.F.map Fent.row),.sl true 3 (v.V.Rows.map Vrow.row),.sl true 1 (v.V.Pvid.map intRow),.lit (.int .i64 v.Ticks),.lit (.int .i64 v.Parse),.lit (.int .i64 v.Word),.lit (.int .i64 v.Drops),.lit (.int .i64 v.Vers)]
def Bridge.wf (v : Bridge) : Prop := intWf v.Id ∧ v.Name.size ≤ maxLen ∧ listWf Pt.wf v.Ports ∧ listWf Fent.wf v.F ∧ listWf Vrow.wf v.V.Rows ∧ listWf intWf v.V.Pvid ∧ intWf v.Ticks ∧ intWf v.Parse ∧ intWf v.Word ∧ intWf v.Drops ∧ intWf v.Vers ∧ True
theorem Bridge.enc : Enc Bridge [.int .i64,.str,.sl 8 [.bool,.int .i64,.bool,.int .i64,.int .i64,.int .i64,.int .i64,.int .i64],.sl 5 [.int .i64,.int .i64,.int .i64,.int .i64,.bool],.sl 3 [.int .i64,.int .i64,.int .i64],.sl 1 [.int .i64],.int .i64,.int .i64,.int .i64,.int .i64,.int .i64] Bridge.row Bridge.wf := fun cs h => by
  obtain ⟨c0,r0,rfl,k0,h⟩ := fitR_cons h
  obtain ⟨c1,r1,rfl,k1,h⟩ := fitR_cons h
  obtain ⟨c2,r2,rfl,k2,h⟩ := fitR_cons h
  obtain ⟨c3,r3,rfl,k3,h⟩ := fitR_cons h
  obtain ⟨c4,r4,rfl,k4,h⟩ := fitR_cons h
  obtain ⟨c5,r5,rfl,k5,h⟩ := fitR_cons h
  obtain ⟨c6,r6,rfl,k6,h⟩ := fitR_cons h
  obtain ⟨c7,r7,rfl,k7,h⟩ := fitR_cons h
  obtain ⟨c8,r8,rfl,k8,h⟩ := fitR_cons h
  obtain ⟨c9,r9,rfl,k9,h⟩ := fitR_cons h
  obtain ⟨c10,r10,rfl,k10,h⟩ := fitR_cons h
  obtain rfl := fitR_nil h
  obtain ⟨x0,rfl,w0⟩ := fitC_int k0
  obtain ⟨x1,rfl,w1⟩ := fitC_str k1
  obtain ⟨x2,rfl,w2⟩ := Enc.sl Pt.enc k2
  obtain ⟨x3,rfl,w3⟩ := Enc.sl Fent.enc k3
  obtain ⟨x4,rfl,w4⟩ := Enc.sl Vrow.enc k4
  obtain ⟨x5,rfl,w5⟩ := Enc.sl encInt k5
  obtain ⟨x6,rfl,w6⟩ := fitC_int k6
  obtain ⟨x7,rfl,w7⟩ := fitC_int k7
  obtain ⟨x8,rfl,w8⟩ := fitC_int k8
  obtain ⟨x9,rfl,w9⟩ := fitC_int k9
  obtain ⟨x10,rfl,w10⟩ := fitC_int k10
  exact ⟨⟨x0,x1,x2,x3,⟨x4,x5⟩,x6,x7,x8,x9,x10⟩,rfl,⟨w0,w1,w2,w3,w4,w5,w6,w7,w8,w9,w10,trivial⟩⟩
theorem Bridge.row_mine (v : Bridge) : CV.mineRow (Bridge.row v) := mine_cons mine_lit (mine_cons mine_lit (mine_cons (mine_sl (mine_map Pt.row_mine _)) (mine_cons (mine_sl (mine_map Fent.row_mine _)) (mine_cons (mine_sl (mine_map Vrow.row_mine _)) (mine_cons (mine_sl (mine_map intRow_mine _)) (mine_cons mine_lit (mine_cons mine_lit (mine_cons mine_lit (mine_cons mine_lit (mine_cons mine_lit (mine_nil)))))))))))
structure Link where
  A : Int
  P : Int
  B : Int
  Q : Int
def Link.row (v : Link) : List CV := [.lit (.int .i64 v.A),.lit (.int .i64 v.P),.lit (.int .i64 v.B),.lit (.int .i64 v.Q)]
def Link.wf (v : Link) : Prop := intWf v.A ∧ intWf v.P ∧ intWf v.B ∧ intWf v.Q ∧ True
theorem Link.enc : Enc Link [.int .i64,.int .i64,.int .i64,.int .i64] Link.row Link.wf := fun cs h => by
  obtain ⟨c0,r0,rfl,k0,h⟩ := fitR_cons h
  obtain ⟨c1,r1,rfl,k1,h⟩ := fitR_cons h
  obtain ⟨c2,r2,rfl,k2,h⟩ := fitR_cons h
  obtain ⟨c3,r3,rfl,k3,h⟩ := fitR_cons h
  obtain rfl := fitR_nil h
  obtain ⟨x0,rfl,w0⟩ := fitC_int k0
  obtain ⟨x1,rfl,w1⟩ := fitC_int k1
  obtain ⟨x2,rfl,w2⟩ := fitC_int k2
  obtain ⟨x3,rfl,w3⟩ := fitC_int k3
  exact ⟨⟨x0,x1,x2,x3⟩,rfl,⟨w0,w1,w2,w3,trivial⟩⟩
theorem Link.row_mine (v : Link) : CV.mineRow (Link.row v) := mine_cons mine_lit (mine_cons mine_lit (mine_cons mine_lit (mine_cons mine_lit (mine_nil))))
structure Say where
  Link : Int
  Back : Bool
  V : Vec
def Say.row (v : Say) : List CV := [.lit (.int .i64 v.Link),.lit (.bool v.Back),.lit (.int .i64 v.V.Root),.lit (.int .i64 v.V.Cost),.lit (.int .i64 v.V.Hops),.lit (.int .i64 v.V.Bridge),.lit (.int .i64 v.V.Port)]
def Say.wf (v : Say) : Prop := intWf v.Link ∧ intWf v.V.Root ∧ intWf v.V.Cost ∧ intWf v.V.Hops ∧ intWf v.V.Bridge ∧ intWf v.V.Port ∧ True
theorem Say.enc : Enc Say [.int .i64,.bool,.int .i64,.int .i64,.int .i64,.int .i64,.int .i64] Say.row Say.wf := fun cs h => by
  obtain ⟨c0,r0,rfl,k0,h⟩ := fitR_cons h
  obtain ⟨c1,r1,rfl,k1,h⟩ := fitR_cons h
  obtain ⟨c2,r2,rfl,k2,h⟩ := fitR_cons h
  obtain ⟨c3,r3,rfl,k3,h⟩ := fitR_cons h
  obtain ⟨c4,r4,rfl,k4,h⟩ := fitR_cons h
  obtain ⟨c5,r5,rfl,k5,h⟩ := fitR_cons h
  obtain ⟨c6,r6,rfl,k6,h⟩ := fitR_cons h
  obtain rfl := fitR_nil h
  obtain ⟨x0,rfl,w0⟩ := fitC_int k0
  obtain ⟨x1,rfl⟩ := fitC_bool k1
  obtain ⟨x2,rfl,w2⟩ := fitC_int k2
  obtain ⟨x3,rfl,w3⟩ := fitC_int k3
  obtain ⟨x4,rfl,w4⟩ := fitC_int k4
  obtain ⟨x5,rfl,w5⟩ := fitC_int k5
  obtain ⟨x6,rfl,w6⟩ := fitC_int k6
  exact ⟨⟨x0,x1,⟨x2,x3,x4,x5,x6⟩⟩,rfl,⟨w0,w2,w3,w4,w5,w6,trivial⟩⟩
theorem Say.row_mine (v : Say) : CV.mineRow (Say.row v) := mine_cons mine_lit (mine_cons mine_lit (mine_cons mine_lit (mine_cons mine_lit (mine_cons mine_lit (mine_cons mine_lit (mine_cons mine_lit (mine_nil)))))))
structure Net where
  Bridges : (List Bridge)
  Links : (List Link)
  Said : (List Say)
def Net.row (v : Net) : List CV := [.sl true 11 (v.Bridges.map Bridge.row),.sl true 4 (v.Links.map Link.row),.sl true 7 (v.Said.map Say.row)]
def Net.wf (v : Net) : Prop := listWf Bridge.wf v.Bridges ∧ listWf Link.wf v.Links ∧ listWf Say.wf v.Said ∧ True
theorem Net.enc : Enc Net [.sl 11 [.int .i64,.str,.sl 8 [.bool,.int .i64,.bool,.int .i64,.int .i64,.int .i64,.int .i64,.int .i64],.sl 5 [.int .i64,.int .i64,.int .i64,.int .i64,.bool],.sl 3 [.int .i64,.int .i64,.int .i64],.sl 1 [.int .i64],.int .i64,.int .i64,.int .i64,.int .i64,.int .i64],.sl 4 [.int .i64,.int .i64,.int .i64,.int .i64],.sl 7 [.int .i64,.bool,.int .i64,.int .i64,.int .i64,.int .i64,.int .i64]] Net.row Net.wf := fun cs h => by
  obtain ⟨c0,r0,rfl,k0,h⟩ := fitR_cons h
  obtain ⟨c1,r1,rfl,k1,h⟩ := fitR_cons h
  obtain ⟨c2,r2,rfl,k2,h⟩ := fitR_cons h
  obtain rfl := fitR_nil h
  obtain ⟨x0,rfl,w0⟩ := Enc.sl Bridge.enc k0
  obtain ⟨x1,rfl,w1⟩ := Enc.sl Link.enc k1
  obtain ⟨x2,rfl,w2⟩ := Enc.sl Say.enc k2
  exact ⟨⟨x0,x1,x2⟩,rfl,⟨w0,w1,w2,trivial⟩⟩
theorem Net.row_mine (v : Net) : CV.mineRow (Net.row v) := mine_cons (mine_sl (mine_map Bridge.row_mine _)) (mine_cons (mine_sl (mine_map Link.row_mine _)) (mine_cons (mine_sl (mine_map Say.row_mine _)) (mine_nil)))
def laws_szPtSF (n : Nat) (x0 : (List Pt)) (x1 : Int) : Option (Int) :=
  (bif (decide ((IntKind.wrap .i64 (x1 - (x0.length : Int))) < 0)) then (some (-1)) else (some (IntKind.wrap .i64 (x1 - (x0.length : Int)))))
noncomputable abbrev G91 (k : Nat) := Rg Tryz.f91 k
theorem laws_szPtS (n : Nat) (x0 : (List Pt)) (x1 : Int) (r : Int) (H : laws_szPtSF n x0 x1 = some r) : LCall Tryz.prog 91 [.val false [.sl false 8 (CV.frzEs (x0.map Pt.row))],.val false [.lit (.int .i64 x1)]] [.val false [.lit (.int .i64 r)]] [] := by
 refine LCall.of_body tOk Tryz.func91 rfl (c := (.seq (G91 0) (.seq (G91 1) (.seq (.seq (G91 2) (.cond (.tmp 10) (.seq (G91 3) .ret) .skip)) (.seq (G91 4) .ret))))) kr (Nat.le_of_ble_eq_true kr) 0 (rs := [.tmp 4]) rfl [] .nil [(false,[.lit (.int .i64 r)])] [] [] fun cx => ?_
 show Tr _ _ _ ⟨12,0,[sC 0 (cF 8 x0 Pt.row),sI 1 x1],[]⟩ _
 unfold laws_szPtSF at H
 refine tG 1 3 0 kr kr ?_
 refine rU 2 kr ?_
 refine lL 40 3 216 6 7 none ⟨(.slot 6),[],0,false,8,(CV.frzEs (x0.map Pt.row))⟩ (x0).length _ kr kr kr kr kr (frz_len _ _) rfl ?_
 refine uD 2 2 0 kr kr ?_
 refine tS ?_
 refine tG 2 1026 0 kr kr ?_
 obtain ⟨h1,H⟩ | ⟨h1,H⟩ := bC H
 ·refine tF h1 kr ?_
  refine tK ?_
  refine tG 2 16 0 kr kr ?_
  exact te (by obtain rfl := si H; exact fO [(false,[cI (w6 (x1 - (x0.length : Int)))])] kr rfl rfl)
 refine tT h1 kr ?_
 refine tG 1 16 0 kr kr ?_
 exact te (by obtain rfl := si H; exact fO [(false,[cI (-1)])] kr rfl rfl)
def laws_szFentSF (n : Nat) (x0 : (List Fent)) (x1 : Int) : Option (Int) :=
  (bif (decide ((IntKind.wrap .i64 (x1 - (x0.length : Int))) < 0)) then (some (-1)) else (some (IntKind.wrap .i64 (x1 - (x0.length : Int)))))
noncomputable abbrev G92 (k : Nat) := Rg Tryz.f92 k
theorem laws_szFentS (n : Nat) (x0 : (List Fent)) (x1 : Int) (r : Int) (H : laws_szFentSF n x0 x1 = some r) : LCall Tryz.prog 92 [.val false [.sl false 5 (CV.frzEs (x0.map Fent.row))],.val false [.lit (.int .i64 x1)]] [.val false [.lit (.int .i64 r)]] [] := by
 refine LCall.of_body tOk Tryz.func92 rfl (c := (.seq (G92 0) (.seq (G92 1) (.seq (.seq (G92 2) (.cond (.tmp 10) (.seq (G92 3) .ret) .skip)) (.seq (G92 4) .ret))))) kr (Nat.le_of_ble_eq_true kr) 0 (rs := [.tmp 4]) rfl [] .nil [(false,[.lit (.int .i64 r)])] [] [] fun cx => ?_
 show Tr _ _ _ ⟨12,0,[sC 0 (cF 5 x0 Fent.row),sI 1 x1],[]⟩ _
 unfold laws_szFentSF at H
 refine tG 1 3 0 kr kr ?_
 refine rU 2 kr ?_
 refine lL 41 3 218 6 7 none ⟨(.slot 6),[],0,false,5,(CV.frzEs (x0.map Fent.row))⟩ (x0).length _ kr kr kr kr kr (frz_len _ _) rfl ?_
 refine uD 2 2 0 kr kr ?_
 refine tS ?_
 refine tG 2 1026 0 kr kr ?_
 obtain ⟨h1,H⟩ | ⟨h1,H⟩ := bC H
 ·refine tF h1 kr ?_
  refine tK ?_
  refine tG 2 16 0 kr kr ?_
  exact te (by obtain rfl := si H; exact fO [(false,[cI (w6 (x1 - (x0.length : Int)))])] kr rfl rfl)
 refine tT h1 kr ?_
 refine tG 1 16 0 kr kr ?_
 exact te (by obtain rfl := si H; exact fO [(false,[cI (-1)])] kr rfl rfl)
def laws_szVrowSF (n : Nat) (x0 : (List Vrow)) (x1 : Int) : Option (Int) :=
  (bif (decide ((IntKind.wrap .i64 (x1 - (x0.length : Int))) < 0)) then (some (-1)) else (some (IntKind.wrap .i64 (x1 - (x0.length : Int)))))
noncomputable abbrev G189 (k : Nat) := Rg Tryz.f189 k
theorem laws_szVrowS (n : Nat) (x0 : (List Vrow)) (x1 : Int) (r : Int) (H : laws_szVrowSF n x0 x1 = some r) : LCall Tryz.prog 189 [.val false [.sl false 3 (CV.frzEs (x0.map Vrow.row))],.val false [.lit (.int .i64 x1)]] [.val false [.lit (.int .i64 r)]] [] := by
 refine LCall.of_body tOk Tryz.func189 rfl (c := (.seq (G189 0) (.seq (G189 1) (.seq (.seq (G189 2) (.cond (.tmp 10) (.seq (G189 3) .ret) .skip)) (.seq (G189 4) .ret))))) kr (Nat.le_of_ble_eq_true kr) 0 (rs := [.tmp 4]) rfl [] .nil [(false,[.lit (.int .i64 r)])] [] [] fun cx => ?_
 show Tr _ _ _ ⟨12,0,[sC 0 (cF 3 x0 Vrow.row),sI 1 x1],[]⟩ _
 unfold laws_szVrowSF at H
 refine tG 1 3 0 kr kr ?_
 refine rU 2 kr ?_
 refine lL 42 3 251 6 7 none ⟨(.slot 6),[],0,false,3,(CV.frzEs (x0.map Vrow.row))⟩ (x0).length _ kr kr kr kr kr (frz_len _ _) rfl ?_
 refine uD 2 2 0 kr kr ?_
 refine tS ?_
 refine tG 2 1026 0 kr kr ?_
 obtain ⟨h1,H⟩ | ⟨h1,H⟩ := bC H
 ·refine tF h1 kr ?_
  refine tK ?_
  refine tG 2 16 0 kr kr ?_
  exact te (by obtain rfl := si H; exact fO [(false,[cI (w6 (x1 - (x0.length : Int)))])] kr rfl rfl)
 refine tT h1 kr ?_
 refine tG 1 16 0 kr kr ?_
 exact te (by obtain rfl := si H; exact fO [(false,[cI (-1)])] kr rfl rfl)
def laws_szIntSF (n : Nat) (x0 : (List Int)) (x1 : Int) : Option (Int) :=
  (bif (decide ((IntKind.wrap .i64 (x1 - (x0.length : Int))) < 0)) then (some (-1)) else (some (IntKind.wrap .i64 (x1 - (x0.length : Int)))))
noncomputable abbrev G190 (k : Nat) := Rg Tryz.f190 k
theorem laws_szIntS (n : Nat) (x0 : (List Int)) (x1 : Int) (r : Int) (H : laws_szIntSF n x0 x1 = some r) : LCall Tryz.prog 190 [.val false [.sl false 1 (CV.frzEs (x0.map intRow))],.val false [.lit (.int .i64 x1)]] [.val false [.lit (.int .i64 r)]] [] := by
 refine LCall.of_body tOk Tryz.func190 rfl (c := (.seq (G190 0) (.seq (G190 1) (.seq (.seq (G190 2) (.cond (.tmp 10) (.seq (G190 3) .ret) .skip)) (.seq (G190 4) .ret))))) kr (Nat.le_of_ble_eq_true kr) 0 (rs := [.tmp 4]) rfl [] .nil [(false,[.lit (.int .i64 r)])] [] [] fun cx => ?_
 show Tr _ _ _ ⟨12,0,[sC 0 (cF 1 x0 intRow),sI 1 x1],[]⟩ _
 unfold laws_szIntSF at H
 refine tG 1 3 0 kr kr ?_
 refine rU 2 kr ?_
 refine lL 22 3 3 6 7 none ⟨(.slot 6),[],0,false,1,(CV.frzEs (x0.map intRow))⟩ (x0).length _ kr kr kr kr kr (frz_len _ _) rfl ?_
 refine uD 2 2 0 kr kr ?_
 refine tS ?_
 refine tG 2 1026 0 kr kr ?_
 obtain ⟨h1,H⟩ | ⟨h1,H⟩ := bC H
 ·refine tF h1 kr ?_
  refine tK ?_
  refine tG 2 16 0 kr kr ?_
  exact te (by obtain rfl := si H; exact fO [(false,[cI (w6 (x1 - (x0.length : Int)))])] kr rfl rfl)
 refine tT h1 kr ?_
 refine tG 1 16 0 kr kr ?_
 exact te (by obtain rfl := si H; exact fO [(false,[cI (-1)])] kr rfl rfl)
def laws_szVtabF (n : Nat) (x0 : Vtab) (x1 : Int) : Option (Int) :=
  ((laws_szVrowSF n x0.Rows x1).bind fun r1 => (bif (decide (r1 < 0)) then (some (-1)) else ((laws_szIntSF n x0.Pvid r1).bind fun r2 => (bif (decide (r2 < 0)) then (some (-1)) else (some r2)))))
noncomputable abbrev G93 (k : Nat) := Rg Tryz.f93 k
theorem laws_szVtab (n : Nat) (x0 : Vtab) (x1 : Int) (r : Int) (H : laws_szVtabF n x0 x1 = some r) : LCall Tryz.prog 93 [.val true (CV.frzRow (Vtab.row x0)),.val false [.lit (.int .i64 x1)]] [.val false [.lit (.int .i64 r)]] [] := by
 refine LCall.of_body tOk Tryz.func93 rfl (c := (.seq (G93 0) (.seq (G93 1) (.seq (.seq (G93 2) (.cond (.tmp 10) (.seq (G93 3) .ret) .skip)) (.seq (G93 4) (.seq (.seq (G93 5) (.cond (.tmp 16) (.seq (G93 6) .ret) .skip)) (.seq (G93 7) .ret))))))) kr (Nat.le_of_ble_eq_true kr) 0 (rs := [.tmp 4]) rfl [] .nil [(false,[.lit (.int .i64 r)])] [] [] fun cx => ?_
 show Tr _ _ _ ⟨18,0,[sV 0 (CV.frzRow (Vtab.row x0)),sI 1 x1],[]⟩ _
 unfold laws_szVtabF at H
 refine tG 2 6 4 kr kr ?_
 refine rU 3 kr ?_
 obtain ⟨r1,er1,H⟩ := bind_some H
 refine lV [.rd,.rd] [] (laws_szVrowS n x0.Rows x1 r1 er1) kr kr kr kr (.inl rfl) ?_
 refine uD 1 6 4 kr kr ?_
 refine tS ?_
 refine tG 2 1030 4 kr kr ?_
 obtain ⟨h1,H⟩ | ⟨h1,H⟩ := bC H
 ·refine tF h1 kr ?_
  refine tK ?_
  refine rU 3 kr ?_
  obtain ⟨r2,er2,H⟩ := bind_some H
  refine lV [.rd,.rd] [] (laws_szIntS n x0.Pvid r1 r2 er2) kr kr kr kr (.inl rfl) ?_
  refine uD 1 2 0 kr kr ?_
  refine tS ?_
  refine tG 2 65538 0 kr kr ?_
  obtain ⟨h2,H⟩ | ⟨h2,H⟩ := bC H
  ·refine tF h2 kr ?_
   refine tK ?_
   refine tG 2 16 0 kr kr ?_
   exact te (by obtain rfl := si H; exact fO [(false,[cI r2])] kr rfl rfl)
  refine tT h2 kr ?_
  refine tG 1 16 0 kr kr ?_
  exact te (by obtain rfl := si H; exact fO [(false,[cI (-1)])] kr rfl rfl)
 refine tT h1 kr ?_
 refine tG 1 16 0 kr kr ?_
 exact te (by obtain rfl := si H; exact fO [(false,[cI (-1)])] kr rfl rfl)
def laws_szBridgeF (n : Nat) (x0 : Bridge) (x1 : Int) : Option (Int) :=
  (bif (decide ((IntKind.wrap .i64 (x1 - (x0.Name.size : Int))) < 0)) then (some (-1)) else ((laws_szPtSF n x0.Ports (IntKind.wrap .i64 (x1 - (x0.Name.size : Int)))).bind fun r1 => (bif (decide (r1 < 0)) then (some (-1)) else ((laws_szFentSF n x0.F r1).bind fun r2 => (bif (decide (r2 < 0)) then (some (-1)) else ((laws_szVtabF n x0.V r2).bind fun r3 => (bif (decide (r3 < 0)) then (some (-1)) else (some r3))))))))
noncomputable abbrev G24 (k : Nat) := Rg Tryz.f24 k
theorem laws_szBridge (n : Nat) (x0 : Bridge) (x1 : Int) (r : Int) (H : laws_szBridgeF n x0 x1 = some r) : LCall Tryz.prog 24 [.val true (CV.frzRow (Bridge.row x0)),.val false [.lit (.int .i64 x1)]] [.val false [.lit (.int .i64 r)]] [] := by
 refine LCall.of_body tOk Tryz.func24 rfl (c := (.seq (G24 0) (.seq (G24 1) (.seq (.seq (G24 2) (.cond (.tmp 11) (.seq (G24 3) .ret) .skip)) (.seq (G24 4) (.seq (.seq (G24 5) (.cond (.tmp 17) (.seq (G24 6) .ret) .skip)) (.seq (G24 7) (.seq (.seq (G24 8) (.cond (.tmp 23) (.seq (G24 9) .ret) .skip)) (.seq (G24 10) (.seq (.seq (G24 11) (.cond (.tmp 29) (.seq (G24 12) .ret) .skip)) (.seq (G24 13) .ret))))))))))) kr (Nat.le_of_ble_eq_true kr) 0 (rs := [.tmp 4]) rfl [] .nil [(false,[.lit (.int .i64 r)])] [] [] fun cx => ?_
 show Tr _ _ _ ⟨31,0,[sV 0 (CV.frzRow (Bridge.row x0)),sI 1 x1],[]⟩ _
 unfold laws_szBridgeF at H
 refine tG 2 6 4 kr kr ?_
 refine tG 6 6 4 kr kr ?_
 refine tS ?_
 refine tG 2 2054 4 kr kr ?_
 obtain ⟨h1,H⟩ | ⟨h1,H⟩ := bC H
 ·refine tF h1 kr ?_
  refine tK ?_
  refine rU 3 kr ?_
  obtain ⟨r1,er1,H⟩ := bind_some H
  refine lV [.rd,.rd] [] (laws_szPtS n x0.Ports (w6 (x1 - (x0.Name.size : Int))) r1 er1) kr kr kr kr (.inl rfl) ?_
  refine uD 1 6 4 kr kr ?_
  refine tS ?_
  refine tG 2 131078 4 kr kr ?_
  obtain ⟨h2,H⟩ | ⟨h2,H⟩ := bC H
  ·refine tF h2 kr ?_
   refine tK ?_
   refine rU 3 kr ?_
   obtain ⟨r2,er2,H⟩ := bind_some H
   refine lV [.rd,.rd] [] (laws_szFentS n x0.F r1 r2 er2) kr kr kr kr (.inl rfl) ?_
   refine uD 1 6 4 kr kr ?_
   refine tS ?_
   refine tG 2 8388614 4 kr kr ?_
   obtain ⟨h3,H⟩ | ⟨h3,H⟩ := bC H
   ·refine tF h3 kr ?_
    refine tK ?_
    refine rU 3 kr ?_
    obtain ⟨r3,er3,H⟩ := bind_some H
    refine lV [.rd,.rd] [] (laws_szVtab n x0.V r2 r3 er3) kr kr kr kr (.inl rfl) ?_
    refine uD 1 2 0 kr kr ?_
    refine tS ?_
    refine tG 2 536870914 0 kr kr ?_
    obtain ⟨h4,H⟩ | ⟨h4,H⟩ := bC H
    ·refine tF h4 kr ?_
     refine tK ?_
     refine tG 2 16 0 kr kr ?_
     exact te (by obtain rfl := si H; exact fO [(false,[cI r3])] kr rfl rfl)
    refine tT h4 kr ?_
    refine tG 1 16 0 kr kr ?_
    exact te (by obtain rfl := si H; exact fO [(false,[cI (-1)])] kr rfl rfl)
   refine tT h3 kr ?_
   refine tG 1 16 0 kr kr ?_
   exact te (by obtain rfl := si H; exact fO [(false,[cI (-1)])] kr rfl rfl)
  refine tT h2 kr ?_
  refine tG 1 16 0 kr kr ?_
  exact te (by obtain rfl := si H; exact fO [(false,[cI (-1)])] kr rfl rfl)
 refine tT h1 kr ?_
 refine tG 1 16 0 kr kr ?_
 exact te (by obtain rfl := si H; exact fO [(false,[cI (-1)])] kr rfl rfl)
def laws_szBridgeS_J1 (n : Nat) (y3 : Int) : Option (Int) :=
  (some y3)
def laws_szBridgeS_L2 (n : Nat) : Nat → (List Bridge) → Int → Int → Option ((Int) ⊕ (Int))
  | 0,_,_,_ => none
  | mo4 + 1,x0,y1,y2 => (bif (decide (y1 < (x0.length : Int))) then ((idx x0 y1).bind fun v5 => ((laws_szBridgeF n v5 y2).bind fun r6 => (bif (decide (r6 < 0)) then (some (Sum.inr (-1))) else (laws_szBridgeS_L2 n mo4 x0 (IntKind.wrap .i64 (y1 + 1)) r6)))) else (some (Sum.inl y2)))
def laws_szBridgeSF (n : Nat) (x0 : (List Bridge)) (x1 : Int) : Option (Int) :=
  (bif (decide ((IntKind.wrap .i64 (x1 - (x0.length : Int))) < 0)) then (some (-1)) else ((laws_szBridgeS_L2 n n x0 0 (IntKind.wrap .i64 (x1 - (x0.length : Int)))).bind fun o => match o with | .inl y3 => (laws_szBridgeS_J1 n y3) | .inr r => some r))
noncomputable abbrev G130 (k : Nat) := Rg Tryz.f130 k
theorem laws_szBridgeS (n : Nat) (x0 : (List Bridge)) (x1 : Int) (r : Int) (H : laws_szBridgeSF n x0 x1 = some r) : LCall Tryz.prog 130 [.val false [.sl false 11 (CV.frzEs (x0.map Bridge.row))],.val false [.lit (.int .i64 x1)]] [.val false [.lit (.int .i64 r)]] [] := by
 refine LCall.of_body tOk Tryz.func130 rfl (c := (.seq (G130 0) (.seq (G130 1) (.seq (.seq (G130 2) (.cond (.tmp 11) (.seq (G130 3) .ret) .skip)) (.seq (.seq (G130 4) (.block 0 (.loop (.seq (.seq (G130 5) (.cond (.tmp 15) .skip (.exit 0))) (.seq (.block 1 (.seq (G130 7) (.seq (G130 8) (.cond (.tmp 25) (.seq (G130 9) .ret) .skip)))) (G130 6)))))) (.seq (G130 10) .ret)))))) kr (Nat.le_of_ble_eq_true kr) 0 (rs := [.tmp 4]) rfl [] .nil [(false,[.lit (.int .i64 r)])] [] [] fun cx => ?_
 show Tr _ _ _ ⟨27,0,[sC 0 (cF 11 x0 Bridge.row),sI 1 x1],[]⟩ _
 unfold laws_szBridgeSF at H
 refine tG 1 3 0 kr kr ?_
 refine rU 2 kr ?_
 refine lL 72 3 46 7 8 none ⟨(.slot 7),[],0,false,11,(CV.frzEs (x0.map Bridge.row))⟩ (x0).length _ kr kr kr kr kr (frz_len _ _) rfl ?_
 refine uD 2 3 0 kr kr ?_
 refine tS ?_
 refine tG 2 2051 0 kr kr ?_
 obtain ⟨h1,H⟩ | ⟨h1,H⟩ := bC H
 ·refine tF h1 kr ?_
  refine tK ?_
  refine tS ?_
  refine tG 1 35 0 kr kr ?_
  obtain ⟨o4,eo4,Ho4⟩ := bind_some H
  clear H
  refine Tr.mid (ι := Int) (fun v => ⟨27,0,[sI 1 v],[]⟩) (fun v => laws_szBridgeS_J1 n v = some r) ?_ ?_
  ·refine tB ?_
   refine Tr.loop (ι := Nat × (Int × Int)) (fun v => ⟨27,0,[sI 5 v.2.1,sI 1 v.2.2,sC 0 (cF 11 x0 Bridge.row)],[]⟩) (fun v => laws_szBridgeS_L2 n v.1 x0 v.2.1 v.2.2 = some o4) (fun v => v.1) (n,(0,(w6 (x1 - (x0.length : Int))))) eo4 (St.sub_of [5,1,0] [] kr) ?_
   rintro ⟨mo4,y1,y2⟩ H
   have H : laws_szBridgeS_L2 n mo4 x0 y1 y2 = some o4 := H
   obtain _ | mo4 := mo4
   ·cases (show (none : Option _) = some o4 from H)
   rw [laws_szBridgeS_L2] at H
   refine tS ?_
   refine rU 2 kr ?_
   refine lL 72 3 46 13 14 none ⟨(.slot 13),[],0,false,11,(CV.frzEs (x0.map Bridge.row))⟩ (x0).length _ kr kr kr kr kr (frz_len _ _) rfl ?_
   refine uD 1 32803 0 kr kr ?_
   obtain ⟨h2,H⟩ | ⟨h2,H⟩ := bC H
   ·refine tF h2 kr ?_
    refine Tr.exit ?_
    refine And.intro (fun _ => ?_) (fun h => absurd rfl h)
    obtain rfl := si H
    have H := Ho4
    dsimp only at H
    exact jn y2 H (sB_ [1] [] kr)
   refine tT h2 kr ?_
   refine tK ?_
   refine tS ?_
   refine tB ?_
   refine rU 2 kr ?_
   obtain ⟨v5,ev5,H⟩ := bind_some H
   refine lI 72 0 18 19 20 none ⟨(.slot 18),[],0,false,11,(CV.frzEs (x0.map Bridge.row))⟩ y1 (CV.frzRow (Bridge.row v5)) _ kr kr kr kr rfl (idx_isF ev5) rfl ?_
   refine lU 2 kr ?_
   obtain ⟨r6,er6,H⟩ := bind_some H
   refine lV [.rd,.rd] [] (laws_szBridge n v5 y2 r6 er6) kr kr kr kr (.inl rfl) ?_
   refine uD 1 35 0 kr kr ?_
   refine tG 2 33554467 0 kr kr ?_
   obtain ⟨h3,H⟩ | ⟨h3,H⟩ := bC H
   ·refine tF h3 kr ?_
    refine tK ?_
    refine tE 3 35 0 kr kr ?_
    exact jn (mo4,((w6 (y1 + 1)),r6)) H (sM mo4 [5,1,0] [] kr)
   refine tT h3 kr ?_
   refine tG 1 16 0 kr kr ?_
   refine te ?_
   obtain rfl := si H
   have H := Ho4
   dsimp only at H
   obtain rfl := si H
   exact fO [(false,[cI (-1)])] kr rfl rfl
  rintro y3 H
  have H : (laws_szBridgeS_J1 n y3) = some r := H
  unfold laws_szBridgeS_J1 at H
  refine tG 2 16 0 kr kr ?_
  exact te (by obtain rfl := si H; exact fO [(false,[cI y3])] kr rfl rfl)
 refine tT h1 kr ?_
 refine tG 1 16 0 kr kr ?_
 exact te (by obtain rfl := si H; exact fO [(false,[cI (-1)])] kr rfl rfl)
def laws_szLinkSF (n : Nat) (x0 : (List Link)) (x1 : Int) : Option (Int) :=
  (bif (decide ((IntKind.wrap .i64 (x1 - (x0.length : Int))) < 0)) then (some (-1)) else (some (IntKind.wrap .i64 (x1 - (x0.length : Int)))))
noncomputable abbrev G12 (k : Nat) := Rg Tryz.f12 k
theorem laws_szLinkS (n : Nat) (x0 : (List Link)) (x1 : Int) (r : Int) (H : laws_szLinkSF n x0 x1 = some r) : LCall Tryz.prog 12 [.val false [.sl false 4 (CV.frzEs (x0.map Link.row))],.val false [.lit (.int .i64 x1)]] [.val false [.lit (.int .i64 r)]] [] := by
 refine LCall.of_body tOk Tryz.func12 rfl (c := (.seq (G12 0) (.seq (G12 1) (.seq (.seq (G12 2) (.cond (.tmp 10) (.seq (G12 3) .ret) .skip)) (.seq (G12 4) .ret))))) kr (Nat.le_of_ble_eq_true kr) 0 (rs := [.tmp 4]) rfl [] .nil [(false,[.lit (.int .i64 r)])] [] [] fun cx => ?_
 show Tr _ _ _ ⟨12,0,[sC 0 (cF 4 x0 Link.row),sI 1 x1],[]⟩ _
 unfold laws_szLinkSF at H
 refine tG 1 3 0 kr kr ?_
 refine rU 2 kr ?_
 refine lL 23 3 130 6 7 none ⟨(.slot 6),[],0,false,4,(CV.frzEs (x0.map Link.row))⟩ (x0).length _ kr kr kr kr kr (frz_len _ _) rfl ?_
 refine uD 2 2 0 kr kr ?_
 refine tS ?_
 refine tG 2 1026 0 kr kr ?_
 obtain ⟨h1,H⟩ | ⟨h1,H⟩ := bC H
 ·refine tF h1 kr ?_
  refine tK ?_
  refine tG 2 16 0 kr kr ?_
  exact te (by obtain rfl := si H; exact fO [(false,[cI (w6 (x1 - (x0.length : Int)))])] kr rfl rfl)
 refine tT h1 kr ?_
 refine tG 1 16 0 kr kr ?_
 exact te (by obtain rfl := si H; exact fO [(false,[cI (-1)])] kr rfl rfl)
def laws_szSaySF (n : Nat) (x0 : (List Say)) (x1 : Int) : Option (Int) :=
  (bif (decide ((IntKind.wrap .i64 (x1 - (x0.length : Int))) < 0)) then (some (-1)) else (some (IntKind.wrap .i64 (x1 - (x0.length : Int)))))
noncomputable abbrev G131 (k : Nat) := Rg Tryz.f131 k
theorem laws_szSayS (n : Nat) (x0 : (List Say)) (x1 : Int) (r : Int) (H : laws_szSaySF n x0 x1 = some r) : LCall Tryz.prog 131 [.val false [.sl false 7 (CV.frzEs (x0.map Say.row))],.val false [.lit (.int .i64 x1)]] [.val false [.lit (.int .i64 r)]] [] := by
 refine LCall.of_body tOk Tryz.func131 rfl (c := (.seq (G131 0) (.seq (G131 1) (.seq (.seq (G131 2) (.cond (.tmp 10) (.seq (G131 3) .ret) .skip)) (.seq (G131 4) .ret))))) kr (Nat.le_of_ble_eq_true kr) 0 (rs := [.tmp 4]) rfl [] .nil [(false,[.lit (.int .i64 r)])] [] [] fun cx => ?_
 show Tr _ _ _ ⟨12,0,[sC 0 (cF 7 x0 Say.row),sI 1 x1],[]⟩ _
 unfold laws_szSaySF at H
 refine tG 1 3 0 kr kr ?_
 refine rU 2 kr ?_
 refine lL 73 3 228 6 7 none ⟨(.slot 6),[],0,false,7,(CV.frzEs (x0.map Say.row))⟩ (x0).length _ kr kr kr kr kr (frz_len _ _) rfl ?_
 refine uD 2 2 0 kr kr ?_
 refine tS ?_
 refine tG 2 1026 0 kr kr ?_
 obtain ⟨h1,H⟩ | ⟨h1,H⟩ := bC H
 ·refine tF h1 kr ?_
  refine tK ?_
  refine tG 2 16 0 kr kr ?_
  exact te (by obtain rfl := si H; exact fO [(false,[cI (w6 (x1 - (x0.length : Int)))])] kr rfl rfl)
 refine tT h1 kr ?_
 refine tG 1 16 0 kr kr ?_
 exact te (by obtain rfl := si H; exact fO [(false,[cI (-1)])] kr rfl rfl)
def laws_szNetF (n : Nat) (x0 : Net) (x1 : Int) : Option (Int) :=
  ((laws_szBridgeSF n x0.Bridges x1).bind fun r1 => (bif (decide (r1 < 0)) then (some (-1)) else ((laws_szLinkSF n x0.Links r1).bind fun r2 => (bif (decide (r2 < 0)) then (some (-1)) else ((laws_szSaySF n x0.Said r2).bind fun r3 => (bif (decide (r3 < 0)) then (some (-1)) else (some r3)))))))
noncomputable abbrev G38 (k : Nat) := Rg Tryz.f38 k
theorem laws_szNet (n : Nat) (x0 : Net) (x1 : Int) (r : Int) (H : laws_szNetF n x0 x1 = some r) : LCall Tryz.prog 38 [.val true (CV.frzRow (Net.row x0)),.val false [.lit (.int .i64 x1)]] [.val false [.lit (.int .i64 r)]] [] := by
 refine LCall.of_body tOk Tryz.func38 rfl (c := (.seq (G38 0) (.seq (G38 1) (.seq (.seq (G38 2) (.cond (.tmp 10) (.seq (G38 3) .ret) .skip)) (.seq (G38 4) (.seq (.seq (G38 5) (.cond (.tmp 16) (.seq (G38 6) .ret) .skip)) (.seq (G38 7) (.seq (.seq (G38 8) (.cond (.tmp 22) (.seq (G38 9) .ret) .skip)) (.seq (G38 10) .ret))))))))) kr (Nat.le_of_ble_eq_true kr) 0 (rs := [.tmp 4]) rfl [] .nil [(false,[.lit (.int .i64 r)])] [] [] fun cx => ?_
 show Tr _ _ _ ⟨24,0,[sV 0 (CV.frzRow (Net.row x0)),sI 1 x1],[]⟩ _
 unfold laws_szNetF at H
 refine tG 2 6 4 kr kr ?_
 refine rU 3 kr ?_
 obtain ⟨r1,er1,H⟩ := bind_some H
 refine lV [.rd,.rd] [] (laws_szBridgeS n x0.Bridges x1 r1 er1) kr kr kr kr (.inl rfl) ?_
 refine uD 1 6 4 kr kr ?_
 refine tS ?_
 refine tG 2 1030 4 kr kr ?_
 obtain ⟨h1,H⟩ | ⟨h1,H⟩ := bC H
 ·refine tF h1 kr ?_
  refine tK ?_
  refine rU 3 kr ?_
  obtain ⟨r2,er2,H⟩ := bind_some H
  refine lV [.rd,.rd] [] (laws_szLinkS n x0.Links r1 r2 er2) kr kr kr kr (.inl rfl) ?_
  refine uD 1 6 4 kr kr ?_
  refine tS ?_
  refine tG 2 65542 4 kr kr ?_
  obtain ⟨h2,H⟩ | ⟨h2,H⟩ := bC H
  ·refine tF h2 kr ?_
   refine tK ?_
   refine rU 3 kr ?_
   obtain ⟨r3,er3,H⟩ := bind_some H
   refine lV [.rd,.rd] [] (laws_szSayS n x0.Said r2 r3 er3) kr kr kr kr (.inl rfl) ?_
   refine uD 1 2 0 kr kr ?_
   refine tS ?_
   refine tG 2 4194306 0 kr kr ?_
   obtain ⟨h3,H⟩ | ⟨h3,H⟩ := bC H
   ·refine tF h3 kr ?_
    refine tK ?_
    refine tG 2 16 0 kr kr ?_
    exact te (by obtain rfl := si H; exact fO [(false,[cI r3])] kr rfl rfl)
   refine tT h3 kr ?_
   refine tG 1 16 0 kr kr ?_
   exact te (by obtain rfl := si H; exact fO [(false,[cI (-1)])] kr rfl rfl)
  refine tT h2 kr ?_
  refine tG 1 16 0 kr kr ?_
  exact te (by obtain rfl := si H; exact fO [(false,[cI (-1)])] kr rfl rfl)
 refine tT h1 kr ?_
 refine tG 1 16 0 kr kr ?_
 exact te (by obtain rfl := si H; exact fO [(false,[cI (-1)])] kr rfl rfl)
def laws_toVecF (n : Nat) (x0 : Vec) : Option (Vec) :=
  (some x0)
noncomputable abbrev G246 (k : Nat) := Rg Tryz.f246 k
theorem laws_toVec (n : Nat) (x0 : Vec) (r : Vec) (H : laws_toVecF n x0 = some r) : LCall Tryz.prog 246 [.val true (CV.frzRow (Vec.row x0))] [.val true (Vec.row r)] [] := by
 refine LCall.of_body tOk Tryz.func246 rfl (c := (.seq (G246 0) (.seq (G246 1) (.seq (G246 2) (.seq (G246 3) (.seq (G246 4) (.seq (G246 5) (.seq (G246 6) (.seq (G246 7) .ret))))))))) kr (Nat.le_of_ble_eq_true kr) 0 (rs := [.cell 2 162]) rfl [] .nil [(true,(Vec.row r))] [] [] fun cx => ?_
 show Tr _ _ _ ⟨20,0,[sV 0 (Vec.row x0)],[]⟩ _
 unfold laws_toVecF at H
 refine tG 2 6 6 kr kr ?_
 refine tG 1 14 14 kr kr ?_
 refine tG 4 14 14 kr kr ?_
 refine tG 4 14 14 kr kr ?_
 refine tG 4 14 14 kr kr ?_
 refine tG 4 14 14 kr kr ?_
 refine tG 4 12 12 kr kr ?_
 refine tG 2 4 4 kr kr ?_
 exact te (by obtain rfl := si H; exact fO [(true,(Vec.row x0))] kr rfl rfl)
def laws_toPtF (n : Nat) (x0 : Pt) : Option (Pt) :=
  ((laws_toVecF n x0.Heard).bind fun r1 => (some (⟨x0.Up,x0.Cost,x0.Has,r1⟩ : Pt)))
noncomputable abbrev G202 (k : Nat) := Rg Tryz.f202 k
theorem laws_toPt (n : Nat) (x0 : Pt) (r : Pt) (H : laws_toPtF n x0 = some r) : LCall Tryz.prog 202 [.val true (CV.frzRow (Pt.row x0))] [.val true (Pt.row r)] [] := by
 refine LCall.of_body tOk Tryz.func202 rfl (c := (.seq (G202 0) (.seq (G202 1) (.seq (G202 2) (.seq (G202 3) (.seq (G202 4) (.seq (G202 5) (.seq (G202 6) .ret)))))))) kr (Nat.le_of_ble_eq_true kr) 0 (rs := [.cell 2 182]) rfl [] .nil [(true,(Pt.row r))] [] [] fun cx => ?_
 show Tr _ _ _ ⟨18,0,[sV 0 (Pt.row x0)],[]⟩ _
 unfold laws_toPtF at H
 refine tG 2 6 6 kr kr ?_
 refine tG 1 14 14 kr kr ?_
 refine tG 4 14 14 kr kr ?_
 refine tG 4 14 14 kr kr ?_
 refine tG 4 14 14 kr kr ?_
 refine rU 2 kr ?_
 obtain ⟨r1,er1,H⟩ := bind_some H
 refine lV [.rd] [] (laws_toVec n x0.Heard r1 er1) kr kr kr kr (.inl rfl) ?_
 refine uD 2 12 12 kr kr ?_
 refine tG 2 4 4 kr kr ?_
 exact te (by obtain rfl := si H; exact fO [(true,[cB x0.Up,cI x0.Cost,cB x0.Has,cI r1.Root,cI r1.Cost,cI r1.Hops,cI r1.Bridge,cI r1.Port])] kr rfl rfl)
def laws_toPtS_J1 (n : Nat) (y4 : (List Pt)) : Option ((List Pt)) :=
  (some y4)
def laws_toPtS_L2 (n : Nat) : Nat → (List Pt) → Int → (List Pt) → Option (((List Pt)) ⊕ ((List Pt)))
  | 0,_,_,_ => none
  | mo5 + 1,x0,y2,y3 => (bif (decide (y2 < (x0.length : Int))) then ((idx x0 y2).bind fun v6 => ((laws_toPtF n v6).bind fun r7 => ((idx y3 y2).bind fun v8 => (laws_toPtS_L2 n mo5 x0 (IntKind.wrap .i64 (y2 + 1)) (y3.set (y2.toNat) r7))))) else (some (Sum.inl y3)))
def laws_toPtSF (n : Nat) (x0 : (List Pt)) : Option ((List Pt)) :=
  (bif (decide (0 ≤ (x0.length : Int)) && decide ((x0.length : Int) ≤ 268435456)) then ((laws_toPtS_L2 n n x0 0 (List.replicate ((x0.length : Int)).toNat (⟨false,0,false,(⟨0,0,0,0,0⟩ : Vec)⟩ : Pt))).bind fun o => match o with | .inl y4 => (laws_toPtS_J1 n y4) | .inr r => some r) else none)
noncomputable abbrev G106 (k : Nat) := Rg Tryz.f106 k
theorem laws_toPtS (n : Nat) (x0 : (List Pt)) (r : (List Pt)) (H : laws_toPtSF n x0 = some r) : LCall Tryz.prog 106 [.val false [.sl false 8 (CV.frzEs (x0.map Pt.row))]] [.val false [.sl true 8 (r.map Pt.row)]] [] := by
 refine LCall.of_body tOk Tryz.func106 rfl (c := (.seq (G106 0) (.seq (G106 1) (.seq (.seq (G106 2) (.block 0 (.loop (.seq (.seq (G106 3) (.cond (.tmp 11) .skip (.exit 0))) (.seq (.block 1 (G106 5)) (G106 4)))))) (.seq (G106 6) .ret))))) kr (Nat.le_of_ble_eq_true kr) 0 (rs := [.tmp 2]) rfl [] .nil [(false,[.sl true 8 (r.map Pt.row)])] [] [] fun cx => ?_
 show Tr _ _ _ ⟨23,0,[sC 0 (cF 8 x0 Pt.row)],[]⟩ _
 unfold laws_toPtSF at H
 refine tG 1 1 0 kr kr ?_
 refine rU 1 kr ?_
 refine lL 40 3 216 5 6 none ⟨(.slot 5),[],0,false,8,(CV.frzEs (x0.map Pt.row))⟩ (x0).length _ kr kr kr kr kr (frz_len _ _) rfl ?_
 obtain ⟨hg1,H⟩ := guard_some H
 refine LAt.makeG tOk (t := 52) (ty := 52) (e := 182) (x := (.tmp 6)) (d := 7) (g := none) (tI 182) (x0.length : Int) ((List.replicate ((x0.length : Int)).toNat (⟨false,0,false,(⟨0,0,0,0,0⟩ : Vec)⟩ : Pt)).map Pt.row) _ kr kr kr kr kr kr hg1 kr (rep_map _ rfl) rfl ?_
 refine LAt.moveU (T := lk tab) (ty := 52) (x := (.tmp 7)) (d := 3) (g := none) false [cL 8 (List.replicate ((x0.length : Int)).toNat (⟨false,0,false,(⟨0,0,0,0,0⟩ : Vec)⟩ : Pt)) Pt.row] kr kr kr kr kr ?_
 refine lD 9 0 kr ?_
 refine tS ?_
 refine tG 1 25 0 kr kr ?_
 obtain ⟨o5,eo5,Ho5⟩ := bind_some H
 clear H
 refine Tr.mid (ι := (List Pt)) (fun v => ⟨23,0,[sC 3 (cL 8 v Pt.row)],[]⟩) (fun v => laws_toPtS_J1 n v = some r) ?_ ?_
 ·refine tB ?_
  refine Tr.loop (ι := Nat × (Int × (List Pt))) (fun v => ⟨23,0,[sI 4 v.2.1,sC 3 (cL 8 v.2.2 Pt.row),sC 0 (cF 8 x0 Pt.row)],[]⟩) (fun v => laws_toPtS_L2 n v.1 x0 v.2.1 v.2.2 = some o5) (fun v => v.1) (n,(0,(List.replicate ((x0.length : Int)).toNat (⟨false,0,false,(⟨0,0,0,0,0⟩ : Vec)⟩ : Pt)))) eo5 (St.sub_of [4,3,0] [] kr) ?_
  rintro ⟨mo5,y2,y3⟩ H
  have H : laws_toPtS_L2 n mo5 x0 y2 y3 = some o5 := H
  obtain _ | mo5 := mo5
  ·cases (show (none : Option _) = some o5 from H)
  rw [laws_toPtS_L2] at H
  refine tS ?_
  refine rU 2 kr ?_
  refine lL 40 3 216 9 10 none ⟨(.slot 9),[],0,false,8,(CV.frzEs (x0.map Pt.row))⟩ (x0).length _ kr kr kr kr kr (frz_len _ _) rfl ?_
  refine uD 1 2073 0 kr kr ?_
  obtain ⟨h1,H⟩ | ⟨h1,H⟩ := bC H
  ·refine tF h1 kr ?_
   refine Tr.exit ?_
   refine And.intro (fun _ => ?_) (fun h => absurd rfl h)
   obtain rfl := si H
   have H := Ho5
   dsimp only at H
   exact jn y3 H (sB_ [3] [] kr)
  refine tT h1 kr ?_
  refine tK ?_
  refine tS ?_
  refine tB ?_
  refine Tr.at ?_
  refine lU 4 kr ?_
  obtain ⟨v6,ev6,H⟩ := bind_some H
  refine lI 40 0 16 17 18 none ⟨(.slot 16),[],0,false,8,(CV.frzEs (x0.map Pt.row))⟩ y2 (Pt.row v6) _ kr kr kr kr rfl (idx_isF ev6) rfl ?_
  refine lU 1 kr ?_
  obtain ⟨r7,er7,H⟩ := bind_some H
  refine lV [.rd] [] (laws_toPt n v6 r7 er7) kr kr kr kr (.inl rfl) ?_
  obtain ⟨v8,ev8,H⟩ := bind_some H
  refine lO 52 0 14 15 21 none ⟨(.slot 3),[],0,true,8,(y3.map Pt.row)⟩ y2 (y2.toNat) (Pt.row v8) _ kr kr kr kr rfl kr (idx_isE ev8) rfl rfl ?_
  refine lW (t := 182) (ty := 0) (ad := (.tmp 21)) (x := (.tmp 20)) (g := none) (tI 182) true (Pt.row r7) 3 0 (y2.toNat) 8 0 8 y3 Pt.row v8 r7 kr kr kr kr kr kr kr kr (idx_get ev8).2 kr kr kr kr ?_
  refine lD 25 0 kr ?_
  refine tE 3 25 0 kr kr ?_
  exact jn (mo5,((w6 (y2 + 1)),(y3.set (y2.toNat) r7))) H (sM mo5 [4,3,0] [] kr)
 rintro y4 H
 have H : (laws_toPtS_J1 n y4) = some r := H
 unfold laws_toPtS_J1 at H
 refine tG 2 12 0 kr kr ?_
 exact te (by obtain rfl := si H; exact fO [(false,[cL 8 y4 Pt.row])] kr rfl rfl)
def laws_toFentF (n : Nat) (x0 : Fent) : Option (Fent) :=
  (some x0)
noncomputable abbrev G203 (k : Nat) := Rg Tryz.f203 k
theorem laws_toFent (n : Nat) (x0 : Fent) (r : Fent) (H : laws_toFentF n x0 = some r) : LCall Tryz.prog 203 [.val true (CV.frzRow (Fent.row x0))] [.val true (Fent.row r)] [] := by
 refine LCall.of_body tOk Tryz.func203 rfl (c := (.seq (G203 0) (.seq (G203 1) (.seq (G203 2) (.seq (G203 3) (.seq (G203 4) (.seq (G203 5) (.seq (G203 6) (.seq (G203 7) .ret))))))))) kr (Nat.le_of_ble_eq_true kr) 0 (rs := [.cell 2 184]) rfl [] .nil [(true,(Fent.row r))] [] [] fun cx => ?_
 show Tr _ _ _ ⟨20,0,[sV 0 (Fent.row x0)],[]⟩ _
 unfold laws_toFentF at H
 refine tG 2 6 6 kr kr ?_
 refine tG 1 14 14 kr kr ?_
 refine tG 4 14 14 kr kr ?_
 refine tG 4 14 14 kr kr ?_
 refine tG 4 14 14 kr kr ?_
 refine tG 4 14 14 kr kr ?_
 refine tG 4 12 12 kr kr ?_
 refine tG 2 4 4 kr kr ?_
 exact te (by obtain rfl := si H; exact fO [(true,(Fent.row x0))] kr rfl rfl)
def laws_toFentS_J1 (n : Nat) (y4 : (List Fent)) : Option ((List Fent)) :=
  (some y4)
def laws_toFentS_L2 (n : Nat) : Nat → (List Fent) → Int → (List Fent) → Option (((List Fent)) ⊕ ((List Fent)))
  | 0,_,_,_ => none
  | mo5 + 1,x0,y2,y3 => (bif (decide (y2 < (x0.length : Int))) then ((idx x0 y2).bind fun v6 => ((laws_toFentF n v6).bind fun r7 => ((idx y3 y2).bind fun v8 => (laws_toFentS_L2 n mo5 x0 (IntKind.wrap .i64 (y2 + 1)) (y3.set (y2.toNat) r7))))) else (some (Sum.inl y3)))
def laws_toFentSF (n : Nat) (x0 : (List Fent)) : Option ((List Fent)) :=
  (bif (decide (0 ≤ (x0.length : Int)) && decide ((x0.length : Int) ≤ 268435456)) then ((laws_toFentS_L2 n n x0 0 (List.replicate ((x0.length : Int)).toNat (⟨0,0,0,0,false⟩ : Fent))).bind fun o => match o with | .inl y4 => (laws_toFentS_J1 n y4) | .inr r => some r) else none)
noncomputable abbrev G107 (k : Nat) := Rg Tryz.f107 k
theorem laws_toFentS (n : Nat) (x0 : (List Fent)) (r : (List Fent)) (H : laws_toFentSF n x0 = some r) : LCall Tryz.prog 107 [.val false [.sl false 5 (CV.frzEs (x0.map Fent.row))]] [.val false [.sl true 5 (r.map Fent.row)]] [] := by
 refine LCall.of_body tOk Tryz.func107 rfl (c := (.seq (G107 0) (.seq (G107 1) (.seq (.seq (G107 2) (.block 0 (.loop (.seq (.seq (G107 3) (.cond (.tmp 11) .skip (.exit 0))) (.seq (.block 1 (G107 5)) (G107 4)))))) (.seq (G107 6) .ret))))) kr (Nat.le_of_ble_eq_true kr) 0 (rs := [.tmp 2]) rfl [] .nil [(false,[.sl true 5 (r.map Fent.row)])] [] [] fun cx => ?_
 show Tr _ _ _ ⟨23,0,[sC 0 (cF 5 x0 Fent.row)],[]⟩ _
 unfold laws_toFentSF at H
 refine tG 1 1 0 kr kr ?_
 refine rU 1 kr ?_
 refine lL 41 3 218 5 6 none ⟨(.slot 5),[],0,false,5,(CV.frzEs (x0.map Fent.row))⟩ (x0).length _ kr kr kr kr kr (frz_len _ _) rfl ?_
 obtain ⟨hg1,H⟩ := guard_some H
 refine LAt.makeG tOk (t := 53) (ty := 53) (e := 184) (x := (.tmp 6)) (d := 7) (g := none) (tI 184) (x0.length : Int) ((List.replicate ((x0.length : Int)).toNat (⟨0,0,0,0,false⟩ : Fent)).map Fent.row) _ kr kr kr kr kr kr hg1 kr (rep_map _ rfl) rfl ?_
 refine LAt.moveU (T := lk tab) (ty := 53) (x := (.tmp 7)) (d := 3) (g := none) false [cL 5 (List.replicate ((x0.length : Int)).toNat (⟨0,0,0,0,false⟩ : Fent)) Fent.row] kr kr kr kr kr ?_
 refine lD 9 0 kr ?_
 refine tS ?_
 refine tG 1 25 0 kr kr ?_
 obtain ⟨o5,eo5,Ho5⟩ := bind_some H
 clear H
 refine Tr.mid (ι := (List Fent)) (fun v => ⟨23,0,[sC 3 (cL 5 v Fent.row)],[]⟩) (fun v => laws_toFentS_J1 n v = some r) ?_ ?_
 ·refine tB ?_
  refine Tr.loop (ι := Nat × (Int × (List Fent))) (fun v => ⟨23,0,[sI 4 v.2.1,sC 3 (cL 5 v.2.2 Fent.row),sC 0 (cF 5 x0 Fent.row)],[]⟩) (fun v => laws_toFentS_L2 n v.1 x0 v.2.1 v.2.2 = some o5) (fun v => v.1) (n,(0,(List.replicate ((x0.length : Int)).toNat (⟨0,0,0,0,false⟩ : Fent)))) eo5 (St.sub_of [4,3,0] [] kr) ?_
  rintro ⟨mo5,y2,y3⟩ H
  have H : laws_toFentS_L2 n mo5 x0 y2 y3 = some o5 := H
  obtain _ | mo5 := mo5
  ·cases (show (none : Option _) = some o5 from H)
  rw [laws_toFentS_L2] at H
  refine tS ?_
  refine rU 2 kr ?_
  refine lL 41 3 218 9 10 none ⟨(.slot 9),[],0,false,5,(CV.frzEs (x0.map Fent.row))⟩ (x0).length _ kr kr kr kr kr (frz_len _ _) rfl ?_
  refine uD 1 2073 0 kr kr ?_
  obtain ⟨h1,H⟩ | ⟨h1,H⟩ := bC H
  ·refine tF h1 kr ?_
   refine Tr.exit ?_
   refine And.intro (fun _ => ?_) (fun h => absurd rfl h)
   obtain rfl := si H
   have H := Ho5
   dsimp only at H
   exact jn y3 H (sB_ [3] [] kr)
  refine tT h1 kr ?_
  refine tK ?_
  refine tS ?_
  refine tB ?_
  refine Tr.at ?_
  refine lU 4 kr ?_
  obtain ⟨v6,ev6,H⟩ := bind_some H
  refine lI 41 0 16 17 18 none ⟨(.slot 16),[],0,false,5,(CV.frzEs (x0.map Fent.row))⟩ y2 (Fent.row v6) _ kr kr kr kr rfl (idx_isF ev6) rfl ?_
  refine lU 1 kr ?_
  obtain ⟨r7,er7,H⟩ := bind_some H
  refine lV [.rd] [] (laws_toFent n v6 r7 er7) kr kr kr kr (.inl rfl) ?_
  obtain ⟨v8,ev8,H⟩ := bind_some H
  refine lO 53 0 14 15 21 none ⟨(.slot 3),[],0,true,5,(y3.map Fent.row)⟩ y2 (y2.toNat) (Fent.row v8) _ kr kr kr kr rfl kr (idx_isE ev8) rfl rfl ?_
  refine lW (t := 184) (ty := 0) (ad := (.tmp 21)) (x := (.tmp 20)) (g := none) (tI 184) true (Fent.row r7) 3 0 (y2.toNat) 5 0 5 y3 Fent.row v8 r7 kr kr kr kr kr kr kr kr (idx_get ev8).2 kr kr kr kr ?_
  refine lD 25 0 kr ?_
  refine tE 3 25 0 kr kr ?_
  exact jn (mo5,((w6 (y2 + 1)),(y3.set (y2.toNat) r7))) H (sM mo5 [4,3,0] [] kr)
 rintro y4 H
 have H : (laws_toFentS_J1 n y4) = some r := H
 unfold laws_toFentS_J1 at H
 refine tG 2 12 0 kr kr ?_
 exact te (by obtain rfl := si H; exact fO [(false,[cL 5 y4 Fent.row])] kr rfl rfl)
def laws_toVrowF (n : Nat) (x0 : Vrow) : Option (Vrow) :=
  (some x0)
noncomputable abbrev G247 (k : Nat) := Rg Tryz.f247 k
theorem laws_toVrow (n : Nat) (x0 : Vrow) (r : Vrow) (H : laws_toVrowF n x0 = some r) : LCall Tryz.prog 247 [.val true (CV.frzRow (Vrow.row x0))] [.val true (Vrow.row r)] [] := by
 refine LCall.of_body tOk Tryz.func247 rfl (c := (.seq (G247 0) (.seq (G247 1) (.seq (G247 2) (.seq (G247 3) (.seq (G247 4) (.seq (G247 5) .ret))))))) kr (Nat.le_of_ble_eq_true kr) 0 (rs := [.cell 2 190]) rfl [] .nil [(true,(Vrow.row r))] [] [] fun cx => ?_
 show Tr _ _ _ ⟨14,0,[sV 0 (Vrow.row x0)],[]⟩ _
 unfold laws_toVrowF at H
 refine tG 2 6 6 kr kr ?_
 refine tG 1 14 14 kr kr ?_
 refine tG 4 14 14 kr kr ?_
 refine tG 4 14 14 kr kr ?_
 refine tG 4 12 12 kr kr ?_
 refine tG 2 4 4 kr kr ?_
 exact te (by obtain rfl := si H; exact fO [(true,(Vrow.row x0))] kr rfl rfl)
def laws_toVrowS_J1 (n : Nat) (y4 : (List Vrow)) : Option ((List Vrow)) :=
  (some y4)
def laws_toVrowS_L2 (n : Nat) : Nat → (List Vrow) → Int → (List Vrow) → Option (((List Vrow)) ⊕ ((List Vrow)))
  | 0,_,_,_ => none
  | mo5 + 1,x0,y2,y3 => (bif (decide (y2 < (x0.length : Int))) then ((idx x0 y2).bind fun v6 => ((laws_toVrowF n v6).bind fun r7 => ((idx y3 y2).bind fun v8 => (laws_toVrowS_L2 n mo5 x0 (IntKind.wrap .i64 (y2 + 1)) (y3.set (y2.toNat) r7))))) else (some (Sum.inl y3)))
def laws_toVrowSF (n : Nat) (x0 : (List Vrow)) : Option ((List Vrow)) :=
  (bif (decide (0 ≤ (x0.length : Int)) && decide ((x0.length : Int) ≤ 268435456)) then ((laws_toVrowS_L2 n n x0 0 (List.replicate ((x0.length : Int)).toNat (⟨0,0,0⟩ : Vrow))).bind fun o => match o with | .inl y4 => (laws_toVrowS_J1 n y4) | .inr r => some r) else none)
noncomputable abbrev G204 (k : Nat) := Rg Tryz.f204 k
theorem laws_toVrowS (n : Nat) (x0 : (List Vrow)) (r : (List Vrow)) (H : laws_toVrowSF n x0 = some r) : LCall Tryz.prog 204 [.val false [.sl false 3 (CV.frzEs (x0.map Vrow.row))]] [.val false [.sl true 3 (r.map Vrow.row)]] [] := by
 refine LCall.of_body tOk Tryz.func204 rfl (c := (.seq (G204 0) (.seq (G204 1) (.seq (.seq (G204 2) (.block 0 (.loop (.seq (.seq (G204 3) (.cond (.tmp 11) .skip (.exit 0))) (.seq (.block 1 (G204 5)) (G204 4)))))) (.seq (G204 6) .ret))))) kr (Nat.le_of_ble_eq_true kr) 0 (rs := [.tmp 2]) rfl [] .nil [(false,[.sl true 3 (r.map Vrow.row)])] [] [] fun cx => ?_
 show Tr _ _ _ ⟨23,0,[sC 0 (cF 3 x0 Vrow.row)],[]⟩ _
 unfold laws_toVrowSF at H
 refine tG 1 1 0 kr kr ?_
 refine rU 1 kr ?_
 refine lL 42 3 251 5 6 none ⟨(.slot 5),[],0,false,3,(CV.frzEs (x0.map Vrow.row))⟩ (x0).length _ kr kr kr kr kr (frz_len _ _) rfl ?_
 obtain ⟨hg1,H⟩ := guard_some H
 refine LAt.makeG tOk (t := 54) (ty := 54) (e := 190) (x := (.tmp 6)) (d := 7) (g := none) (tI 190) (x0.length : Int) ((List.replicate ((x0.length : Int)).toNat (⟨0,0,0⟩ : Vrow)).map Vrow.row) _ kr kr kr kr kr kr hg1 kr (rep_map _ rfl) rfl ?_
 refine LAt.moveU (T := lk tab) (ty := 54) (x := (.tmp 7)) (d := 3) (g := none) false [cL 3 (List.replicate ((x0.length : Int)).toNat (⟨0,0,0⟩ : Vrow)) Vrow.row] kr kr kr kr kr ?_
 refine lD 9 0 kr ?_
 refine tS ?_
 refine tG 1 25 0 kr kr ?_
 obtain ⟨o5,eo5,Ho5⟩ := bind_some H
 clear H
 refine Tr.mid (ι := (List Vrow)) (fun v => ⟨23,0,[sC 3 (cL 3 v Vrow.row)],[]⟩) (fun v => laws_toVrowS_J1 n v = some r) ?_ ?_
 ·refine tB ?_
  refine Tr.loop (ι := Nat × (Int × (List Vrow))) (fun v => ⟨23,0,[sI 4 v.2.1,sC 3 (cL 3 v.2.2 Vrow.row),sC 0 (cF 3 x0 Vrow.row)],[]⟩) (fun v => laws_toVrowS_L2 n v.1 x0 v.2.1 v.2.2 = some o5) (fun v => v.1) (n,(0,(List.replicate ((x0.length : Int)).toNat (⟨0,0,0⟩ : Vrow)))) eo5 (St.sub_of [4,3,0] [] kr) ?_
  rintro ⟨mo5,y2,y3⟩ H
  have H : laws_toVrowS_L2 n mo5 x0 y2 y3 = some o5 := H
  obtain _ | mo5 := mo5
  ·cases (show (none : Option _) = some o5 from H)
  rw [laws_toVrowS_L2] at H
  refine tS ?_
  refine rU 2 kr ?_
  refine lL 42 3 251 9 10 none ⟨(.slot 9),[],0,false,3,(CV.frzEs (x0.map Vrow.row))⟩ (x0).length _ kr kr kr kr kr (frz_len _ _) rfl ?_
  refine uD 1 2073 0 kr kr ?_
  obtain ⟨h1,H⟩ | ⟨h1,H⟩ := bC H
  ·refine tF h1 kr ?_
   refine Tr.exit ?_
   refine And.intro (fun _ => ?_) (fun h => absurd rfl h)
   obtain rfl := si H
   have H := Ho5
   dsimp only at H
   exact jn y3 H (sB_ [3] [] kr)
  refine tT h1 kr ?_
  refine tK ?_
  refine tS ?_
  refine tB ?_
  refine Tr.at ?_
  refine lU 4 kr ?_
  obtain ⟨v6,ev6,H⟩ := bind_some H
  refine lI 42 0 16 17 18 none ⟨(.slot 16),[],0,false,3,(CV.frzEs (x0.map Vrow.row))⟩ y2 (Vrow.row v6) _ kr kr kr kr rfl (idx_isF ev6) rfl ?_
  refine lU 1 kr ?_
  obtain ⟨r7,er7,H⟩ := bind_some H
  refine lV [.rd] [] (laws_toVrow n v6 r7 er7) kr kr kr kr (.inl rfl) ?_
  obtain ⟨v8,ev8,H⟩ := bind_some H
  refine lO 54 0 14 15 21 none ⟨(.slot 3),[],0,true,3,(y3.map Vrow.row)⟩ y2 (y2.toNat) (Vrow.row v8) _ kr kr kr kr rfl kr (idx_isE ev8) rfl rfl ?_
  refine lW (t := 190) (ty := 0) (ad := (.tmp 21)) (x := (.tmp 20)) (g := none) (tI 190) true (Vrow.row r7) 3 0 (y2.toNat) 3 0 3 y3 Vrow.row v8 r7 kr kr kr kr kr kr kr kr (idx_get ev8).2 kr kr kr kr ?_
  refine lD 25 0 kr ?_
  refine tE 3 25 0 kr kr ?_
  exact jn (mo5,((w6 (y2 + 1)),(y3.set (y2.toNat) r7))) H (sM mo5 [4,3,0] [] kr)
 rintro y4 H
 have H : (laws_toVrowS_J1 n y4) = some r := H
 unfold laws_toVrowS_J1 at H
 refine tG 2 12 0 kr kr ?_
 exact te (by obtain rfl := si H; exact fO [(false,[cL 3 y4 Vrow.row])] kr rfl rfl)
def laws_toIntS_J1 (n : Nat) (y4 : (List Int)) : Option ((List Int)) :=
  (some y4)
def laws_toIntS_L2 (n : Nat) : Nat → (List Int) → Int → (List Int) → Option (((List Int)) ⊕ ((List Int)))
  | 0,_,_,_ => none
  | mo5 + 1,x0,y2,y3 => (bif (decide (y2 < (x0.length : Int))) then ((idx x0 y2).bind fun v6 => ((idx y3 y2).bind fun v7 => (laws_toIntS_L2 n mo5 x0 (IntKind.wrap .i64 (y2 + 1)) (y3.set (y2.toNat) v6)))) else (some (Sum.inl y3)))
def laws_toIntSF (n : Nat) (x0 : (List Int)) : Option ((List Int)) :=
  (bif (decide (0 ≤ (x0.length : Int)) && decide ((x0.length : Int) ≤ 268435456)) then ((laws_toIntS_L2 n n x0 0 (List.replicate ((x0.length : Int)).toNat 0)).bind fun o => match o with | .inl y4 => (laws_toIntS_J1 n y4) | .inr r => some r) else none)
noncomputable abbrev G14 (k : Nat) := Rg Tryz.f14 k
theorem laws_toIntS (n : Nat) (x0 : (List Int)) (r : (List Int)) (H : laws_toIntSF n x0 = some r) : LCall Tryz.prog 14 [.val false [.sl false 1 (CV.frzEs (x0.map intRow))]] [.val false [.sl true 1 (r.map intRow)]] [] := by
 refine LCall.of_body tOk Tryz.func14 rfl (c := (.seq (G14 0) (.seq (G14 1) (.seq (.seq (G14 2) (.block 0 (.loop (.seq (.seq (G14 3) (.cond (.tmp 11) .skip (.exit 0))) (.seq (.block 1 (G14 5)) (G14 4)))))) (.seq (G14 6) .ret))))) kr (Nat.le_of_ble_eq_true kr) 0 (rs := [.tmp 2]) rfl [] .nil [(false,[.sl true 1 (r.map intRow)])] [] [] fun cx => ?_
 show Tr _ _ _ ⟨22,0,[sC 0 (cF 1 x0 intRow)],[]⟩ _
 unfold laws_toIntSF at H
 refine tG 1 1 0 kr kr ?_
 refine rU 1 kr ?_
 refine lL 22 3 3 5 6 none ⟨(.slot 5),[],0,false,1,(CV.frzEs (x0.map intRow))⟩ (x0).length _ kr kr kr kr kr (frz_len _ _) rfl ?_
 obtain ⟨hg1,H⟩ := guard_some H
 refine LAt.makeG tOk (t := 22) (ty := 22) (e := 3) (x := (.tmp 6)) (d := 7) (g := none) (tI 3) (x0.length : Int) ((List.replicate ((x0.length : Int)).toNat 0).map intRow) _ kr kr kr kr kr kr hg1 kr (rep_map _ rfl) rfl ?_
 refine LAt.moveU (T := lk tab) (ty := 22) (x := (.tmp 7)) (d := 3) (g := none) false [cL 1 (List.replicate ((x0.length : Int)).toNat 0) intRow] kr kr kr kr kr ?_
 refine lD 9 0 kr ?_
 refine tS ?_
 refine tG 1 25 0 kr kr ?_
 obtain ⟨o5,eo5,Ho5⟩ := bind_some H
 clear H
 refine Tr.mid (ι := (List Int)) (fun v => ⟨22,0,[sC 3 (cL 1 v intRow)],[]⟩) (fun v => laws_toIntS_J1 n v = some r) ?_ ?_
 ·refine tB ?_
  refine Tr.loop (ι := Nat × (Int × (List Int))) (fun v => ⟨22,0,[sI 4 v.2.1,sC 3 (cL 1 v.2.2 intRow),sC 0 (cF 1 x0 intRow)],[]⟩) (fun v => laws_toIntS_L2 n v.1 x0 v.2.1 v.2.2 = some o5) (fun v => v.1) (n,(0,(List.replicate ((x0.length : Int)).toNat 0))) eo5 (St.sub_of [4,3,0] [] kr) ?_
  rintro ⟨mo5,y2,y3⟩ H
  have H : laws_toIntS_L2 n mo5 x0 y2 y3 = some o5 := H
  obtain _ | mo5 := mo5
  ·cases (show (none : Option _) = some o5 from H)
  rw [laws_toIntS_L2] at H
  refine tS ?_
  refine rU 2 kr ?_
  refine lL 22 3 3 9 10 none ⟨(.slot 9),[],0,false,1,(CV.frzEs (x0.map intRow))⟩ (x0).length _ kr kr kr kr kr (frz_len _ _) rfl ?_
  refine uD 1 2073 0 kr kr ?_
  obtain ⟨h1,H⟩ | ⟨h1,H⟩ := bC H
  ·refine tF h1 kr ?_
   refine Tr.exit ?_
   refine And.intro (fun _ => ?_) (fun h => absurd rfl h)
   obtain rfl := si H
   have H := Ho5
   dsimp only at H
   exact jn y3 H (sB_ [3] [] kr)
  refine tT h1 kr ?_
  refine tK ?_
  refine tS ?_
  refine tB ?_
  refine Tr.at ?_
  refine lU 4 kr ?_
  obtain ⟨v6,ev6,H⟩ := bind_some H
  refine lI 22 0 16 17 18 none ⟨(.slot 16),[],0,false,1,(CV.frzEs (x0.map intRow))⟩ y2 [cI v6] _ kr kr kr kr rfl (idx_isF ev6) rfl ?_
  refine lU 1 kr ?_
  obtain ⟨v7,ev7,H⟩ := bind_some H
  refine lO 22 0 14 15 20 none ⟨(.slot 3),[],0,true,1,(y3.map intRow)⟩ y2 (y2.toNat) (intRow v7) _ kr kr kr kr rfl kr (idx_isE ev7) rfl rfl ?_
  refine lW (t := 3) (ty := 0) (ad := (.tmp 20)) (x := (.tmp 19)) (g := none) (tI 3) false [cI v6] 3 0 (y2.toNat) 1 0 1 y3 intRow v7 v6 kr kr kr kr kr kr kr kr (idx_get ev7).2 kr kr kr kr ?_
  refine lD 25 0 kr ?_
  refine tE 3 25 0 kr kr ?_
  exact jn (mo5,((w6 (y2 + 1)),(y3.set (y2.toNat) v6))) H (sM mo5 [4,3,0] [] kr)
 rintro y4 H
 have H : (laws_toIntS_J1 n y4) = some r := H
 unfold laws_toIntS_J1 at H
 refine tG 2 12 0 kr kr ?_
 exact te (by obtain rfl := si H; exact fO [(false,[cL 1 y4 intRow])] kr rfl rfl)
def laws_toVtabF (n : Nat) (x0 : Vtab) : Option (Vtab) :=
  ((laws_toVrowSF n x0.Rows).bind fun r1 => ((laws_toIntSF n x0.Pvid).bind fun r2 => (some (⟨r1,r2⟩ : Vtab))))
noncomputable abbrev G108 (k : Nat) := Rg Tryz.f108 k
theorem laws_toVtab (n : Nat) (x0 : Vtab) (r : Vtab) (H : laws_toVtabF n x0 = some r) : LCall Tryz.prog 108 [.val true (CV.frzRow (Vtab.row x0))] [.val true (Vtab.row r)] [] := by
 refine LCall.of_body tOk Tryz.func108 rfl (c := (.seq (G108 0) (.seq (G108 1) (.seq (G108 2) (.seq (G108 3) (.seq (G108 4) .ret)))))) kr (Nat.le_of_ble_eq_true kr) 0 (rs := [.cell 2 56]) rfl [] .nil [(true,(Vtab.row r))] [] [] fun cx => ?_
 show Tr _ _ _ ⟨13,0,[sV 0 (CV.frzRow (Vtab.row x0))],[]⟩ _
 unfold laws_toVtabF at H
 refine tG 2 6 6 kr kr ?_
 refine tG 1 14 14 kr kr ?_
 refine rU 2 kr ?_
 obtain ⟨r1,er1,H⟩ := bind_some H
 refine lV [.rd] [] (laws_toVrowS n x0.Rows r1 er1) kr kr kr kr (.inl rfl) ?_
 refine uD 2 14 14 kr kr ?_
 refine rU 2 kr ?_
 obtain ⟨r2,er2,H⟩ := bind_some H
 refine lV [.rd] [] (laws_toIntS n x0.Pvid r2 er2) kr kr kr kr (.inl rfl) ?_
 refine uD 2 12 12 kr kr ?_
 refine tG 2 4 4 kr kr ?_
 exact te (by obtain rfl := si H; exact fO [(true,[cL 3 r1 Vrow.row,cL 1 r2 intRow])] kr rfl rfl)
def laws_toBridgeF (n : Nat) (x0 : Bridge) : Option (Bridge) :=
  ((laws_toPtSF n x0.Ports).bind fun r1 => ((laws_toFentSF n x0.F).bind fun r2 => ((laws_toVtabF n x0.V).bind fun r3 => (some (⟨x0.Id,x0.Name,r1,r2,r3,x0.Ticks,x0.Parse,x0.Word,x0.Drops,x0.Vers⟩ : Bridge)))))
noncomputable abbrev G27 (k : Nat) := Rg Tryz.f27 k
theorem laws_toBridge (n : Nat) (x0 : Bridge) (r : Bridge) (H : laws_toBridgeF n x0 = some r) : LCall Tryz.prog 27 [.val true (CV.frzRow (Bridge.row x0))] [.val true (Bridge.row r)] [] := by
 refine LCall.of_body tOk Tryz.func27 rfl (c := (.seq (G27 0) (.seq (G27 1) (.seq (G27 2) (.seq (G27 3) (.seq (G27 4) (.seq (G27 5) (.seq (G27 6) (.seq (G27 7) (.seq (G27 8) (.seq (G27 9) (.seq (G27 10) (.seq (G27 11) (.seq (G27 12) .ret)))))))))))))) kr (Nat.le_of_ble_eq_true kr) 0 (rs := [.cell 2 58]) rfl [] .nil [(true,(Bridge.row r))] [] [] fun cx => ?_
 show Tr _ _ _ ⟨38,0,[sV 0 (CV.frzRow (Bridge.row x0))],[]⟩ _
 unfold laws_toBridgeF at H
 refine tG 2 6 6 kr kr ?_
 refine tG 1 14 14 kr kr ?_
 refine tG 4 14 14 kr kr ?_
 refine tG 4 14 14 kr kr ?_
 refine rU 2 kr ?_
 obtain ⟨r1,er1,H⟩ := bind_some H
 refine lV [.rd] [] (laws_toPtS n x0.Ports r1 er1) kr kr kr kr (.inl rfl) ?_
 refine uD 2 14 14 kr kr ?_
 refine rU 2 kr ?_
 obtain ⟨r2,er2,H⟩ := bind_some H
 refine lV [.rd] [] (laws_toFentS n x0.F r2 er2) kr kr kr kr (.inl rfl) ?_
 refine uD 2 14 14 kr kr ?_
 refine rU 2 kr ?_
 obtain ⟨r3,er3,H⟩ := bind_some H
 refine lV [.rd] [] (laws_toVtab n x0.V r3 er3) kr kr kr kr (.inl rfl) ?_
 refine uD 2 14 14 kr kr ?_
 refine tG 4 14 14 kr kr ?_
 refine tG 4 14 14 kr kr ?_
 refine tG 4 14 14 kr kr ?_
 refine tG 4 14 14 kr kr ?_
 refine tG 4 12 12 kr kr ?_
 refine tG 2 4 4 kr kr ?_
 exact te (by obtain rfl := si H; exact fO [(true,[cI x0.Id,cS x0.Name,cL 8 r1 Pt.row,cL 5 r2 Fent.row,cL 3 r3.Rows Vrow.row,cL 1 r3.Pvid intRow,cI x0.Ticks,cI x0.Parse,cI x0.Word,cI x0.Drops,cI x0.Vers])] kr rfl rfl)
def laws_toBridgeS_J1 (n : Nat) (y4 : (List Bridge)) : Option ((List Bridge)) :=
  (some y4)
def laws_toBridgeS_L2 (n : Nat) : Nat → (List Bridge) → Int → (List Bridge) → Option (((List Bridge)) ⊕ ((List Bridge)))
  | 0,_,_,_ => none
  | mo5 + 1,x0,y2,y3 => (bif (decide (y2 < (x0.length : Int))) then ((idx x0 y2).bind fun v6 => ((laws_toBridgeF n v6).bind fun r7 => ((idx y3 y2).bind fun v8 => (laws_toBridgeS_L2 n mo5 x0 (IntKind.wrap .i64 (y2 + 1)) (y3.set (y2.toNat) r7))))) else (some (Sum.inl y3)))
def laws_toBridgeSF (n : Nat) (x0 : (List Bridge)) : Option ((List Bridge)) :=
  (bif (decide (0 ≤ (x0.length : Int)) && decide ((x0.length : Int) ≤ 268435456)) then ((laws_toBridgeS_L2 n n x0 0 (List.replicate ((x0.length : Int)).toNat (⟨0,(⟨#[]⟩ : ByteArray),([] : List Pt),([] : List Fent),(⟨([] : List Vrow),([] : List Int)⟩ : Vtab),0,0,0,0,0⟩ : Bridge))).bind fun o => match o with | .inl y4 => (laws_toBridgeS_J1 n y4) | .inr r => some r) else none)
noncomputable abbrev G135 (k : Nat) := Rg Tryz.f135 k
theorem laws_toBridgeS (n : Nat) (x0 : (List Bridge)) (r : (List Bridge)) (H : laws_toBridgeSF n x0 = some r) : LCall Tryz.prog 135 [.val false [.sl false 11 (CV.frzEs (x0.map Bridge.row))]] [.val false [.sl true 11 (r.map Bridge.row)]] [] := by
 refine LCall.of_body tOk Tryz.func135 rfl (c := (.seq (G135 0) (.seq (G135 1) (.seq (.seq (G135 2) (.block 0 (.loop (.seq (.seq (G135 3) (.cond (.tmp 11) .skip (.exit 0))) (.seq (.block 1 (G135 5)) (G135 4)))))) (.seq (G135 6) .ret))))) kr (Nat.le_of_ble_eq_true kr) 0 (rs := [.tmp 2]) rfl [] .nil [(false,[.sl true 11 (r.map Bridge.row)])] [] [] fun cx => ?_
 show Tr _ _ _ ⟨23,0,[sC 0 (cF 11 x0 Bridge.row)],[]⟩ _
 unfold laws_toBridgeSF at H
 refine tG 1 1 0 kr kr ?_
 refine rU 1 kr ?_
 refine lL 72 3 46 5 6 none ⟨(.slot 5),[],0,false,11,(CV.frzEs (x0.map Bridge.row))⟩ (x0).length _ kr kr kr kr kr (frz_len _ _) rfl ?_
 obtain ⟨hg1,H⟩ := guard_some H
 refine LAt.makeG tOk (t := 25) (ty := 25) (e := 58) (x := (.tmp 6)) (d := 7) (g := none) (tI 58) (x0.length : Int) ((List.replicate ((x0.length : Int)).toNat (⟨0,(⟨#[]⟩ : ByteArray),([] : List Pt),([] : List Fent),(⟨([] : List Vrow),([] : List Int)⟩ : Vtab),0,0,0,0,0⟩ : Bridge)).map Bridge.row) _ kr kr kr kr kr kr hg1 kr (rep_map _ rfl) rfl ?_
 refine LAt.moveU (T := lk tab) (ty := 25) (x := (.tmp 7)) (d := 3) (g := none) false [cL 11 (List.replicate ((x0.length : Int)).toNat (⟨0,(⟨#[]⟩ : ByteArray),([] : List Pt),([] : List Fent),(⟨([] : List Vrow),([] : List Int)⟩ : Vtab),0,0,0,0,0⟩ : Bridge)) Bridge.row] kr kr kr kr kr ?_
 refine lD 9 0 kr ?_
 refine tS ?_
 refine tG 1 25 0 kr kr ?_
 obtain ⟨o5,eo5,Ho5⟩ := bind_some H
 clear H
 refine Tr.mid (ι := (List Bridge)) (fun v => ⟨23,0,[sC 3 (cL 11 v Bridge.row)],[]⟩) (fun v => laws_toBridgeS_J1 n v = some r) ?_ ?_
 ·refine tB ?_
  refine Tr.loop (ι := Nat × (Int × (List Bridge))) (fun v => ⟨23,0,[sI 4 v.2.1,sC 3 (cL 11 v.2.2 Bridge.row),sC 0 (cF 11 x0 Bridge.row)],[]⟩) (fun v => laws_toBridgeS_L2 n v.1 x0 v.2.1 v.2.2 = some o5) (fun v => v.1) (n,(0,(List.replicate ((x0.length : Int)).toNat (⟨0,(⟨#[]⟩ : ByteArray),([] : List Pt),([] : List Fent),(⟨([] : List Vrow),([] : List Int)⟩ : Vtab),0,0,0,0,0⟩ : Bridge)))) eo5 (St.sub_of [4,3,0] [] kr) ?_
  rintro ⟨mo5,y2,y3⟩ H
  have H : laws_toBridgeS_L2 n mo5 x0 y2 y3 = some o5 := H
  obtain _ | mo5 := mo5
  ·cases (show (none : Option _) = some o5 from H)
  rw [laws_toBridgeS_L2] at H
  refine tS ?_
  refine rU 2 kr ?_
  refine lL 72 3 46 9 10 none ⟨(.slot 9),[],0,false,11,(CV.frzEs (x0.map Bridge.row))⟩ (x0).length _ kr kr kr kr kr (frz_len _ _) rfl ?_
  refine uD 1 2073 0 kr kr ?_
  obtain ⟨h1,H⟩ | ⟨h1,H⟩ := bC H
  ·refine tF h1 kr ?_
   refine Tr.exit ?_
   refine And.intro (fun _ => ?_) (fun h => absurd rfl h)
   obtain rfl := si H
   have H := Ho5
   dsimp only at H
   exact jn y3 H (sB_ [3] [] kr)
  refine tT h1 kr ?_
  refine tK ?_
  refine tS ?_
  refine tB ?_
  refine Tr.at ?_
  refine lU 4 kr ?_
  obtain ⟨v6,ev6,H⟩ := bind_some H
  refine lI 72 0 16 17 18 none ⟨(.slot 16),[],0,false,11,(CV.frzEs (x0.map Bridge.row))⟩ y2 (CV.frzRow (Bridge.row v6)) _ kr kr kr kr rfl (idx_isF ev6) rfl ?_
  refine lU 1 kr ?_
  obtain ⟨r7,er7,H⟩ := bind_some H
  refine lV [.rd] [] (laws_toBridge n v6 r7 er7) kr kr kr kr (.inl rfl) ?_
  obtain ⟨v8,ev8,H⟩ := bind_some H
  refine lO 25 0 14 15 21 none ⟨(.slot 3),[],0,true,11,(y3.map Bridge.row)⟩ y2 (y2.toNat) (Bridge.row v8) _ kr kr kr kr rfl kr (idx_isE ev8) rfl rfl ?_
  refine lW (t := 58) (ty := 0) (ad := (.tmp 21)) (x := (.tmp 20)) (g := none) (tI 58) true (Bridge.row r7) 3 0 (y2.toNat) 11 0 11 y3 Bridge.row v8 r7 kr kr kr kr kr kr kr kr (idx_get ev8).2 kr kr kr kr ?_
  refine lD 25 0 kr ?_
  refine tE 3 25 0 kr kr ?_
  exact jn (mo5,((w6 (y2 + 1)),(y3.set (y2.toNat) r7))) H (sM mo5 [4,3,0] [] kr)
 rintro y4 H
 have H : (laws_toBridgeS_J1 n y4) = some r := H
 unfold laws_toBridgeS_J1 at H
 refine tG 2 12 0 kr kr ?_
 exact te (by obtain rfl := si H; exact fO [(false,[cL 11 y4 Bridge.row])] kr rfl rfl)
def laws_toLinkF (n : Nat) (x0 : Link) : Option (Link) :=
  (some x0)
noncomputable abbrev G80 (k : Nat) := Rg Tryz.f80 k
theorem laws_toLink (n : Nat) (x0 : Link) (r : Link) (H : laws_toLinkF n x0 = some r) : LCall Tryz.prog 80 [.val true (CV.frzRow (Link.row x0))] [.val true (Link.row r)] [] := by
 refine LCall.of_body tOk Tryz.func80 rfl (c := (.seq (G80 0) (.seq (G80 1) (.seq (G80 2) (.seq (G80 3) (.seq (G80 4) (.seq (G80 5) (.seq (G80 6) .ret)))))))) kr (Nat.le_of_ble_eq_true kr) 0 (rs := [.cell 2 126]) rfl [] .nil [(true,(Link.row r))] [] [] fun cx => ?_
 show Tr _ _ _ ⟨17,0,[sV 0 (Link.row x0)],[]⟩ _
 unfold laws_toLinkF at H
 refine tG 2 6 6 kr kr ?_
 refine tG 1 14 14 kr kr ?_
 refine tG 4 14 14 kr kr ?_
 refine tG 4 14 14 kr kr ?_
 refine tG 4 14 14 kr kr ?_
 refine tG 4 12 12 kr kr ?_
 refine tG 2 4 4 kr kr ?_
 exact te (by obtain rfl := si H; exact fO [(true,(Link.row x0))] kr rfl rfl)
def laws_toLinkS_J1 (n : Nat) (y4 : (List Link)) : Option ((List Link)) :=
  (some y4)
def laws_toLinkS_L2 (n : Nat) : Nat → (List Link) → Int → (List Link) → Option (((List Link)) ⊕ ((List Link)))
  | 0,_,_,_ => none
  | mo5 + 1,x0,y2,y3 => (bif (decide (y2 < (x0.length : Int))) then ((idx x0 y2).bind fun v6 => ((laws_toLinkF n v6).bind fun r7 => ((idx y3 y2).bind fun v8 => (laws_toLinkS_L2 n mo5 x0 (IntKind.wrap .i64 (y2 + 1)) (y3.set (y2.toNat) r7))))) else (some (Sum.inl y3)))
def laws_toLinkSF (n : Nat) (x0 : (List Link)) : Option ((List Link)) :=
  (bif (decide (0 ≤ (x0.length : Int)) && decide ((x0.length : Int) ≤ 268435456)) then ((laws_toLinkS_L2 n n x0 0 (List.replicate ((x0.length : Int)).toNat (⟨0,0,0,0⟩ : Link))).bind fun o => match o with | .inl y4 => (laws_toLinkS_J1 n y4) | .inr r => some r) else none)
noncomputable abbrev G15 (k : Nat) := Rg Tryz.f15 k
theorem laws_toLinkS (n : Nat) (x0 : (List Link)) (r : (List Link)) (H : laws_toLinkSF n x0 = some r) : LCall Tryz.prog 15 [.val false [.sl false 4 (CV.frzEs (x0.map Link.row))]] [.val false [.sl true 4 (r.map Link.row)]] [] := by
 refine LCall.of_body tOk Tryz.func15 rfl (c := (.seq (G15 0) (.seq (G15 1) (.seq (.seq (G15 2) (.block 0 (.loop (.seq (.seq (G15 3) (.cond (.tmp 11) .skip (.exit 0))) (.seq (.block 1 (G15 5)) (G15 4)))))) (.seq (G15 6) .ret))))) kr (Nat.le_of_ble_eq_true kr) 0 (rs := [.tmp 2]) rfl [] .nil [(false,[.sl true 4 (r.map Link.row)])] [] [] fun cx => ?_
 show Tr _ _ _ ⟨23,0,[sC 0 (cF 4 x0 Link.row)],[]⟩ _
 unfold laws_toLinkSF at H
 refine tG 1 1 0 kr kr ?_
 refine rU 1 kr ?_
 refine lL 23 3 130 5 6 none ⟨(.slot 5),[],0,false,4,(CV.frzEs (x0.map Link.row))⟩ (x0).length _ kr kr kr kr kr (frz_len _ _) rfl ?_
 obtain ⟨hg1,H⟩ := guard_some H
 refine LAt.makeG tOk (t := 26) (ty := 26) (e := 126) (x := (.tmp 6)) (d := 7) (g := none) (tI 126) (x0.length : Int) ((List.replicate ((x0.length : Int)).toNat (⟨0,0,0,0⟩ : Link)).map Link.row) _ kr kr kr kr kr kr hg1 kr (rep_map _ rfl) rfl ?_
 refine LAt.moveU (T := lk tab) (ty := 26) (x := (.tmp 7)) (d := 3) (g := none) false [cL 4 (List.replicate ((x0.length : Int)).toNat (⟨0,0,0,0⟩ : Link)) Link.row] kr kr kr kr kr ?_
 refine lD 9 0 kr ?_
 refine tS ?_
 refine tG 1 25 0 kr kr ?_
 obtain ⟨o5,eo5,Ho5⟩ := bind_some H
 clear H
 refine Tr.mid (ι := (List Link)) (fun v => ⟨23,0,[sC 3 (cL 4 v Link.row)],[]⟩) (fun v => laws_toLinkS_J1 n v = some r) ?_ ?_
 ·refine tB ?_
  refine Tr.loop (ι := Nat × (Int × (List Link))) (fun v => ⟨23,0,[sI 4 v.2.1,sC 3 (cL 4 v.2.2 Link.row),sC 0 (cF 4 x0 Link.row)],[]⟩) (fun v => laws_toLinkS_L2 n v.1 x0 v.2.1 v.2.2 = some o5) (fun v => v.1) (n,(0,(List.replicate ((x0.length : Int)).toNat (⟨0,0,0,0⟩ : Link)))) eo5 (St.sub_of [4,3,0] [] kr) ?_
  rintro ⟨mo5,y2,y3⟩ H
  have H : laws_toLinkS_L2 n mo5 x0 y2 y3 = some o5 := H
  obtain _ | mo5 := mo5
  ·cases (show (none : Option _) = some o5 from H)
  rw [laws_toLinkS_L2] at H
  refine tS ?_
  refine rU 2 kr ?_
  refine lL 23 3 130 9 10 none ⟨(.slot 9),[],0,false,4,(CV.frzEs (x0.map Link.row))⟩ (x0).length _ kr kr kr kr kr (frz_len _ _) rfl ?_
  refine uD 1 2073 0 kr kr ?_
  obtain ⟨h1,H⟩ | ⟨h1,H⟩ := bC H
  ·refine tF h1 kr ?_
   refine Tr.exit ?_
   refine And.intro (fun _ => ?_) (fun h => absurd rfl h)
   obtain rfl := si H
   have H := Ho5
   dsimp only at H
   exact jn y3 H (sB_ [3] [] kr)
  refine tT h1 kr ?_
  refine tK ?_
  refine tS ?_
  refine tB ?_
  refine Tr.at ?_
  refine lU 4 kr ?_
  obtain ⟨v6,ev6,H⟩ := bind_some H
  refine lI 23 0 16 17 18 none ⟨(.slot 16),[],0,false,4,(CV.frzEs (x0.map Link.row))⟩ y2 (Link.row v6) _ kr kr kr kr rfl (idx_isF ev6) rfl ?_
  refine lU 1 kr ?_
  obtain ⟨r7,er7,H⟩ := bind_some H
  refine lV [.rd] [] (laws_toLink n v6 r7 er7) kr kr kr kr (.inl rfl) ?_
  obtain ⟨v8,ev8,H⟩ := bind_some H
  refine lO 26 0 14 15 21 none ⟨(.slot 3),[],0,true,4,(y3.map Link.row)⟩ y2 (y2.toNat) (Link.row v8) _ kr kr kr kr rfl kr (idx_isE ev8) rfl rfl ?_
  refine lW (t := 126) (ty := 0) (ad := (.tmp 21)) (x := (.tmp 20)) (g := none) (tI 126) true (Link.row r7) 3 0 (y2.toNat) 4 0 4 y3 Link.row v8 r7 kr kr kr kr kr kr kr kr (idx_get ev8).2 kr kr kr kr ?_
  refine lD 25 0 kr ?_
  refine tE 3 25 0 kr kr ?_
  exact jn (mo5,((w6 (y2 + 1)),(y3.set (y2.toNat) r7))) H (sM mo5 [4,3,0] [] kr)
 rintro y4 H
 have H : (laws_toLinkS_J1 n y4) = some r := H
 unfold laws_toLinkS_J1 at H
 refine tG 2 12 0 kr kr ?_
 exact te (by obtain rfl := si H; exact fO [(false,[cL 4 y4 Link.row])] kr rfl rfl)
def laws_toSayF (n : Nat) (x0 : Say) : Option (Say) :=
  ((laws_toVecF n x0.V).bind fun r1 => (some (⟨x0.Link,x0.Back,r1⟩ : Say)))
noncomputable abbrev G215 (k : Nat) := Rg Tryz.f215 k
theorem laws_toSay (n : Nat) (x0 : Say) (r : Say) (H : laws_toSayF n x0 = some r) : LCall Tryz.prog 215 [.val true (CV.frzRow (Say.row x0))] [.val true (Say.row r)] [] := by
 refine LCall.of_body tOk Tryz.func215 rfl (c := (.seq (G215 0) (.seq (G215 1) (.seq (G215 2) (.seq (G215 3) (.seq (G215 4) (.seq (G215 5) .ret))))))) kr (Nat.le_of_ble_eq_true kr) 0 (rs := [.cell 2 195]) rfl [] .nil [(true,(Say.row r))] [] [] fun cx => ?_
 show Tr _ _ _ ⟨15,0,[sV 0 (Say.row x0)],[]⟩ _
 unfold laws_toSayF at H
 refine tG 2 6 6 kr kr ?_
 refine tG 1 14 14 kr kr ?_
 refine tG 4 14 14 kr kr ?_
 refine tG 4 14 14 kr kr ?_
 refine rU 2 kr ?_
 obtain ⟨r1,er1,H⟩ := bind_some H
 refine lV [.rd] [] (laws_toVec n x0.V r1 er1) kr kr kr kr (.inl rfl) ?_
 refine uD 2 12 12 kr kr ?_
 refine tG 2 4 4 kr kr ?_
 exact te (by obtain rfl := si H; exact fO [(true,[cI x0.Link,cB x0.Back,cI r1.Root,cI r1.Cost,cI r1.Hops,cI r1.Bridge,cI r1.Port])] kr rfl rfl)
def laws_toSayS_J1 (n : Nat) (y4 : (List Say)) : Option ((List Say)) :=
  (some y4)
def laws_toSayS_L2 (n : Nat) : Nat → (List Say) → Int → (List Say) → Option (((List Say)) ⊕ ((List Say)))
  | 0,_,_,_ => none
  | mo5 + 1,x0,y2,y3 => (bif (decide (y2 < (x0.length : Int))) then ((idx x0 y2).bind fun v6 => ((laws_toSayF n v6).bind fun r7 => ((idx y3 y2).bind fun v8 => (laws_toSayS_L2 n mo5 x0 (IntKind.wrap .i64 (y2 + 1)) (y3.set (y2.toNat) r7))))) else (some (Sum.inl y3)))
def laws_toSaySF (n : Nat) (x0 : (List Say)) : Option ((List Say)) :=
  (bif (decide (0 ≤ (x0.length : Int)) && decide ((x0.length : Int) ≤ 268435456)) then ((laws_toSayS_L2 n n x0 0 (List.replicate ((x0.length : Int)).toNat (⟨0,false,(⟨0,0,0,0,0⟩ : Vec)⟩ : Say))).bind fun o => match o with | .inl y4 => (laws_toSayS_J1 n y4) | .inr r => some r) else none)
noncomputable abbrev G136 (k : Nat) := Rg Tryz.f136 k
theorem laws_toSayS (n : Nat) (x0 : (List Say)) (r : (List Say)) (H : laws_toSaySF n x0 = some r) : LCall Tryz.prog 136 [.val false [.sl false 7 (CV.frzEs (x0.map Say.row))]] [.val false [.sl true 7 (r.map Say.row)]] [] := by
 refine LCall.of_body tOk Tryz.func136 rfl (c := (.seq (G136 0) (.seq (G136 1) (.seq (.seq (G136 2) (.block 0 (.loop (.seq (.seq (G136 3) (.cond (.tmp 11) .skip (.exit 0))) (.seq (.block 1 (G136 5)) (G136 4)))))) (.seq (G136 6) .ret))))) kr (Nat.le_of_ble_eq_true kr) 0 (rs := [.tmp 2]) rfl [] .nil [(false,[.sl true 7 (r.map Say.row)])] [] [] fun cx => ?_
 show Tr _ _ _ ⟨23,0,[sC 0 (cF 7 x0 Say.row)],[]⟩ _
 unfold laws_toSaySF at H
 refine tG 1 1 0 kr kr ?_
 refine rU 1 kr ?_
 refine lL 73 3 228 5 6 none ⟨(.slot 5),[],0,false,7,(CV.frzEs (x0.map Say.row))⟩ (x0).length _ kr kr kr kr kr (frz_len _ _) rfl ?_
 obtain ⟨hg1,H⟩ := guard_some H
 refine LAt.makeG tOk (t := 27) (ty := 27) (e := 195) (x := (.tmp 6)) (d := 7) (g := none) (tI 195) (x0.length : Int) ((List.replicate ((x0.length : Int)).toNat (⟨0,false,(⟨0,0,0,0,0⟩ : Vec)⟩ : Say)).map Say.row) _ kr kr kr kr kr kr hg1 kr (rep_map _ rfl) rfl ?_
 refine LAt.moveU (T := lk tab) (ty := 27) (x := (.tmp 7)) (d := 3) (g := none) false [cL 7 (List.replicate ((x0.length : Int)).toNat (⟨0,false,(⟨0,0,0,0,0⟩ : Vec)⟩ : Say)) Say.row] kr kr kr kr kr ?_
 refine lD 9 0 kr ?_
 refine tS ?_
 refine tG 1 25 0 kr kr ?_
 obtain ⟨o5,eo5,Ho5⟩ := bind_some H
 clear H
 refine Tr.mid (ι := (List Say)) (fun v => ⟨23,0,[sC 3 (cL 7 v Say.row)],[]⟩) (fun v => laws_toSayS_J1 n v = some r) ?_ ?_
 ·refine tB ?_
  refine Tr.loop (ι := Nat × (Int × (List Say))) (fun v => ⟨23,0,[sI 4 v.2.1,sC 3 (cL 7 v.2.2 Say.row),sC 0 (cF 7 x0 Say.row)],[]⟩) (fun v => laws_toSayS_L2 n v.1 x0 v.2.1 v.2.2 = some o5) (fun v => v.1) (n,(0,(List.replicate ((x0.length : Int)).toNat (⟨0,false,(⟨0,0,0,0,0⟩ : Vec)⟩ : Say)))) eo5 (St.sub_of [4,3,0] [] kr) ?_
  rintro ⟨mo5,y2,y3⟩ H
  have H : laws_toSayS_L2 n mo5 x0 y2 y3 = some o5 := H
  obtain _ | mo5 := mo5
  ·cases (show (none : Option _) = some o5 from H)
  rw [laws_toSayS_L2] at H
  refine tS ?_
  refine rU 2 kr ?_
  refine lL 73 3 228 9 10 none ⟨(.slot 9),[],0,false,7,(CV.frzEs (x0.map Say.row))⟩ (x0).length _ kr kr kr kr kr (frz_len _ _) rfl ?_
  refine uD 1 2073 0 kr kr ?_
  obtain ⟨h1,H⟩ | ⟨h1,H⟩ := bC H
  ·refine tF h1 kr ?_
   refine Tr.exit ?_
   refine And.intro (fun _ => ?_) (fun h => absurd rfl h)
   obtain rfl := si H
   have H := Ho5
   dsimp only at H
   exact jn y3 H (sB_ [3] [] kr)
  refine tT h1 kr ?_
  refine tK ?_
  refine tS ?_
  refine tB ?_
  refine Tr.at ?_
  refine lU 4 kr ?_
  obtain ⟨v6,ev6,H⟩ := bind_some H
  refine lI 73 0 16 17 18 none ⟨(.slot 16),[],0,false,7,(CV.frzEs (x0.map Say.row))⟩ y2 (Say.row v6) _ kr kr kr kr rfl (idx_isF ev6) rfl ?_
  refine lU 1 kr ?_
  obtain ⟨r7,er7,H⟩ := bind_some H
  refine lV [.rd] [] (laws_toSay n v6 r7 er7) kr kr kr kr (.inl rfl) ?_
  obtain ⟨v8,ev8,H⟩ := bind_some H
  refine lO 27 0 14 15 21 none ⟨(.slot 3),[],0,true,7,(y3.map Say.row)⟩ y2 (y2.toNat) (Say.row v8) _ kr kr kr kr rfl kr (idx_isE ev8) rfl rfl ?_
  refine lW (t := 195) (ty := 0) (ad := (.tmp 21)) (x := (.tmp 20)) (g := none) (tI 195) true (Say.row r7) 3 0 (y2.toNat) 7 0 7 y3 Say.row v8 r7 kr kr kr kr kr kr kr kr (idx_get ev8).2 kr kr kr kr ?_
  refine lD 25 0 kr ?_
  refine tE 3 25 0 kr kr ?_
  exact jn (mo5,((w6 (y2 + 1)),(y3.set (y2.toNat) r7))) H (sM mo5 [4,3,0] [] kr)
 rintro y4 H
 have H : (laws_toSayS_J1 n y4) = some r := H
 unfold laws_toSayS_J1 at H
 refine tG 2 12 0 kr kr ?_
 exact te (by obtain rfl := si H; exact fO [(false,[cL 7 y4 Say.row])] kr rfl rfl)
def laws_toNetF (n : Nat) (x0 : Net) : Option (Net) :=
  ((laws_toBridgeSF n x0.Bridges).bind fun r1 => ((laws_toLinkSF n x0.Links).bind fun r2 => ((laws_toSaySF n x0.Said).bind fun r3 => (some (⟨r1,r2,r3⟩ : Net)))))
noncomputable abbrev G40 (k : Nat) := Rg Tryz.f40 k
theorem laws_toNet (n : Nat) (x0 : Net) (r : Net) (H : laws_toNetF n x0 = some r) : LCall Tryz.prog 40 [.val true (CV.frzRow (Net.row x0))] [.val true (Net.row r)] [] := by
 refine LCall.of_body tOk Tryz.func40 rfl (c := (.seq (G40 0) (.seq (G40 1) (.seq (G40 2) (.seq (G40 3) (.seq (G40 4) (.seq (G40 5) .ret))))))) kr (Nat.le_of_ble_eq_true kr) 0 (rs := [.cell 2 29]) rfl [] .nil [(true,(Net.row r))] [] [] fun cx => ?_
 show Tr _ _ _ ⟨17,0,[sV 0 (CV.frzRow (Net.row x0))],[]⟩ _
 unfold laws_toNetF at H
 refine tG 2 6 6 kr kr ?_
 refine tG 1 14 14 kr kr ?_
 refine rU 2 kr ?_
 obtain ⟨r1,er1,H⟩ := bind_some H
 refine lV [.rd] [] (laws_toBridgeS n x0.Bridges r1 er1) kr kr kr kr (.inl rfl) ?_
 refine uD 2 14 14 kr kr ?_
 refine rU 2 kr ?_
 obtain ⟨r2,er2,H⟩ := bind_some H
 refine lV [.rd] [] (laws_toLinkS n x0.Links r2 er2) kr kr kr kr (.inl rfl) ?_
 refine uD 2 14 14 kr kr ?_
 refine rU 2 kr ?_
 obtain ⟨r3,er3,H⟩ := bind_some H
 refine lV [.rd] [] (laws_toSayS n x0.Said r3 er3) kr kr kr kr (.inl rfl) ?_
 refine uD 2 12 12 kr kr ?_
 refine tG 2 4 4 kr kr ?_
 exact te (by obtain rfl := si H; exact fO [(true,[cL 11 r1 Bridge.row,cL 4 r2 Link.row,cL 7 r3 Say.row])] kr rfl rfl)
def spec_l8CopyF (n : Nat) (x0 : (List Fent)) : Option ((List Fent)) :=
  (bif (decide (([] : List Fent).length + x0.length ≤ 268435456)) then (some (([] : List Fent) ++ x0)) else none)
theorem spec_l8Copy (n : Nat) (x0 : (List Fent)) (r : (List Fent)) (H : spec_l8CopyF n x0 = some r) : LCall Tryz.prog 191 [.val false [.sl false 5 (CV.frzEs (x0.map Fent.row))]] [.val false [.sl true 5 (r.map Fent.row)]] [] := by
 refine LCall.of_body tOk Tryz.func191 rfl (c := (.seq (Rg Tryz.f191 0) (.seq (Rg Tryz.f191 1) .ret))) kr (Nat.le_of_ble_eq_true kr) 0 (rs := [.tmp 2]) rfl [] .nil [(false,[.sl true 5 (r.map Fent.row)])] [] [] fun cx => ?_
 show Tr _ _ _ ⟨6,0,[sC 0 (cF 5 x0 Fent.row)],[]⟩ _
 unfold spec_l8CopyF at H
 refine tG 1 1 0 kr kr ?_
 refine rU 2 kr ?_
 obtain ⟨hg1,H⟩ := guard_some H
 refine LAt.appCU tOk (t := 53) (ty := 53) (e := 184) (x := (.tmp 3)) (y := (.tmp 4)) (d := 5) (g := none) (tI 184) Fent.row ([] : List Fent) x0 ⟨(.slot 4),[],0,false,5,(CV.frzEs (x0.map Fent.row))⟩ kr kr kr kr kr kr kr kr kr kr kr (.inr rfl) (fun _ => rfl) (fun _ => rfl) hg1 ?_
 refine LAt.moveU (T := lk tab) (ty := 53) (x := (.tmp 5)) (d := 2) (g := none) false [cL 5 (([] : List Fent) ++ x0) Fent.row] kr kr kr kr kr ?_
 refine lD 4 0 kr ?_
 exact te (by obtain rfl := si H; exact fO [(false,[cL 5 (([] : List Fent) ++ x0) Fent.row])] kr rfl rfl)
def spec_l9CopyF (n : Nat) (x0 : Vtab) : Option (Vtab) :=
  (bif (decide (([] : List Vrow).length + x0.Rows.length ≤ 268435456)) then (bif (decide (([] : List Int).length + x0.Pvid.length ≤ 268435456)) then (some (⟨(([] : List Vrow) ++ x0.Rows),(([] : List Int) ++ x0.Pvid)⟩ : Vtab)) else none) else none)
theorem spec_l9Copy (n : Nat) (x0 : Vtab) (r : Vtab) (H : spec_l9CopyF n x0 = some r) : LCall Tryz.prog 192 [.val true (CV.frzRow (Vtab.row x0))] [.val true (Vtab.row r)] [] := by
 refine LCall.of_body tOk Tryz.func192 rfl (c := (.seq (Rg Tryz.f192 0) (.seq (Rd Tryz.f192 1) .ret))) kr (Nat.le_of_ble_eq_true kr) 0 (rs := [.cell 2 56]) rfl [] .nil [(true,(Vtab.row r))] [] [] fun cx => ?_
 show Tr _ _ _ ⟨12,0,[sV 0 (CV.frzRow (Vtab.row x0))],[]⟩ _
 unfold spec_l9CopyF at H
 refine tG 2 6 6 kr kr ?_
 obtain ⟨hg1,H⟩ := guard_some H
 obtain ⟨hg2,H⟩ := guard_some H
 refine Tr.draws mixed 10 kr ⟨12,0,[sA 2 2 2 0],[(2,[cL 3 (([] : List Vrow) ++ x0.Rows) Vrow.row,cL 1 (([] : List Int) ++ x0.Pvid) intRow])]⟩ (fun cx => ?_) ?_
 ·refine aU [(1,[]),(2,[3,7,8,9]),(5,[]),(6,[7,8,9])] 6 [⟨[7,8,9],22,8,9⟩,⟨[3,7,8,9],54,4,5⟩] [6,5,2,1] rfl kr (fun cx => ?_)
  refine AT.big2 tOk 0 4 kr (And.intro kr ?_) (And.intro kr ?_)
  ·refine lU 1 kr ?_
   refine lF kr kr kr ?_
   refine AT.big2 tOk 3 4 kr (And.intro kr ?_) (And.intro kr ?_)
   ·refine LAt.appCU tOk (t := 54) (ty := 54) (e := 190) (x := (.tmp 3)) (y := (.tmp 5)) (d := 6) (g := none) (tI 190) Vrow.row ([] : List Vrow) x0.Rows ⟨(.box 1),[(0,0)],0,false,3,(CV.frzEs (x0.Rows.map Vrow.row))⟩ kr kr kr kr kr kr kr kr kr kr kr (.inr rfl) (fun _ => rfl) (fun _ => rfl) hg1 ?_
    refine lF kr kr kr ?_
    refine b1 4 kr kr ?_
    refine lU 1 kr ?_
    refine lF kr kr kr ?_
    refine b1 7 kr kr ?_
    refine LAt.appCU tOk (t := 22) (ty := 22) (e := 3) (x := (.tmp 7)) (y := (.tmp 9)) (d := 10) (g := none) (tI 3) intRow ([] : List Int) x0.Pvid ⟨(.box 1),[(0,0)],1,false,1,(CV.frzEs (x0.Pvid.map intRow))⟩ kr kr kr kr kr kr kr kr kr kr kr (.inr rfl) (fun _ => rfl) (fun _ => rfl) hg2 ?_
    refine lF kr kr kr ?_
    refine b1 8 kr kr ?_
    refine lU 1 kr ?_
    refine lF kr kr kr ?_
    refine b1 9 kr kr ?_
    refine lU 1 kr ?_
    refine lF kr kr kr ?_
    exact AT.done [2] [2] _ kr kr rfl
   ·refine lU 1 kr ?_
    refine lF kr kr kr ?_
    refine b1 3 kr kr ?_
    refine LAt.appCU tOk (t := 54) (ty := 54) (e := 190) (x := (.tmp 3)) (y := (.tmp 5)) (d := 6) (g := none) (tI 190) Vrow.row ([] : List Vrow) x0.Rows ⟨(.box 1),[(0,0)],0,false,3,(CV.frzEs (x0.Rows.map Vrow.row))⟩ kr kr kr kr kr kr kr kr kr kr kr (.inr rfl) (fun _ => rfl) (fun _ => rfl) hg1 ?_
    refine lF kr kr kr ?_
    refine b1 7 kr kr ?_
    refine LAt.appCU tOk (t := 22) (ty := 22) (e := 3) (x := (.tmp 7)) (y := (.tmp 9)) (d := 10) (g := none) (tI 3) intRow ([] : List Int) x0.Pvid ⟨(.box 1),[(0,0)],1,false,1,(CV.frzEs (x0.Pvid.map intRow))⟩ kr kr kr kr kr kr kr kr kr kr kr (.inr rfl) (fun _ => rfl) (fun _ => rfl) hg2 ?_
    refine lF kr kr kr ?_
    refine b1 8 kr kr ?_
    refine lU 1 kr ?_
    refine lF kr kr kr ?_
    refine b1 9 kr kr ?_
    refine lU 1 kr ?_
    refine lF kr kr kr ?_
    exact AT.done [2] [2] _ kr kr rfl
  ·refine lU 1 kr ?_
   refine lF kr kr kr ?_
   refine b1 0 kr kr ?_
   refine lU 1 kr ?_
   refine lF kr kr kr ?_
   refine b1 3 kr kr ?_
   refine LAt.appCU tOk (t := 54) (ty := 54) (e := 190) (x := (.tmp 3)) (y := (.tmp 5)) (d := 6) (g := none) (tI 190) Vrow.row ([] : List Vrow) x0.Rows ⟨(.box 1),[(0,0)],0,false,3,(CV.frzEs (x0.Rows.map Vrow.row))⟩ kr kr kr kr kr kr kr kr kr kr kr (.inr rfl) (fun _ => rfl) (fun _ => rfl) hg1 ?_
   refine lF kr kr kr ?_
   refine b1 7 kr kr ?_
   refine LAt.appCU tOk (t := 22) (ty := 22) (e := 3) (x := (.tmp 7)) (y := (.tmp 9)) (d := 10) (g := none) (tI 3) intRow ([] : List Int) x0.Pvid ⟨(.box 1),[(0,0)],1,false,1,(CV.frzEs (x0.Pvid.map intRow))⟩ kr kr kr kr kr kr kr kr kr kr kr (.inr rfl) (fun _ => rfl) (fun _ => rfl) hg2 ?_
   refine lF kr kr kr ?_
   refine b1 8 kr kr ?_
   refine lU 1 kr ?_
   refine lF kr kr kr ?_
   refine b1 9 kr kr ?_
   refine lU 1 kr ?_
   refine lF kr kr kr ?_
   exact AT.done [2] [2] _ kr kr rfl
 exact te (by obtain rfl := si H; exact fO [(true,[cL 3 (([] : List Vrow) ++ x0.Rows) Vrow.row,cL 1 (([] : List Int) ++ x0.Pvid) intRow])] kr rfl rfl)
def spec_l11CopyF (n : Nat) (x0 : Bridge) : Option (Bridge) :=
  (bif (decide (([] : List Pt).length + x0.Ports.length ≤ 268435456)) then ((spec_l8CopyF n x0.F).bind fun r2 => ((spec_l9CopyF n x0.V).bind fun r3 => (some (⟨x0.Id,x0.Name,(([] : List Pt) ++ x0.Ports),r2,r3,x0.Ticks,x0.Parse,x0.Word,x0.Drops,x0.Vers⟩ : Bridge)))) else none)
noncomputable abbrev G95 (k : Nat) := Rg Tryz.f95 k
theorem spec_l11Copy (n : Nat) (x0 : Bridge) (r : Bridge) (H : spec_l11CopyF n x0 = some r) : LCall Tryz.prog 95 [.val true (CV.frzRow (Bridge.row x0))] [.val true (Bridge.row r)] [] := by
 refine LCall.of_body tOk Tryz.func95 rfl (c := (.seq (G95 0) (.seq (G95 1) (.seq (G95 2) (.seq (G95 3) (.seq (G95 4) (.seq (G95 5) .ret))))))) kr (Nat.le_of_ble_eq_true kr) 0 (rs := [.cell 2 58]) rfl [] .nil [(true,(Bridge.row r))] [] [] fun cx => ?_
 show Tr _ _ _ ⟨19,0,[sV 0 (CV.frzRow (Bridge.row x0))],[]⟩ _
 unfold spec_l11CopyF at H
 refine tG 2 6 6 kr kr ?_
 refine tG 3 14 14 kr kr ?_
 refine rU 3 kr ?_
 obtain ⟨hg1,H⟩ := guard_some H
 refine LAt.appCU tOk (t := 52) (ty := 52) (e := 182) (x := (.tmp 5)) (y := (.tmp 7)) (d := 8) (g := none) (tI 182) Pt.row ([] : List Pt) x0.Ports ⟨(.slot 7),[],0,false,8,(CV.frzEs (x0.Ports.map Pt.row))⟩ kr kr kr kr kr kr kr kr kr kr kr (.inr rfl) (fun _ => rfl) (fun _ => rfl) hg1 ?_
 refine uD 2 14 14 kr kr ?_
 refine rU 2 kr ?_
 obtain ⟨r2,er2,H⟩ := bind_some H
 refine lV [.rd] [] (spec_l8Copy n x0.F r2 er2) kr kr kr kr (.inl rfl) ?_
 refine uD 2 14 14 kr kr ?_
 refine rU 2 kr ?_
 obtain ⟨r3,er3,H⟩ := bind_some H
 refine lV [.rd] [] (spec_l9Copy n x0.V r3 er3) kr kr kr kr (.inl rfl) ?_
 refine uD 2 12 12 kr kr ?_
 refine tG 2 4 4 kr kr ?_
 exact te (by obtain rfl := si H; exact fO [(true,[cI x0.Id,cS x0.Name,cL 8 (([] : List Pt) ++ x0.Ports) Pt.row,cL 5 r2 Fent.row,cL 3 r3.Rows Vrow.row,cL 1 r3.Pvid intRow,cI x0.Ticks,cI x0.Parse,cI x0.Word,cI x0.Drops,cI x0.Vers])] kr rfl rfl)
def spec_l13Copy_J1 (n : Nat) (x0 : Net) (y5 : (List Bridge)) : Option (Net) :=
  (some (⟨y5,(([] : List Link) ++ x0.Links),(([] : List Say) ++ x0.Said)⟩ : Net))
def spec_l13Copy_L2 (n : Nat) : Nat → Net → Int → (List Bridge) → Option (((List Bridge)) ⊕ (Net))
  | 0,_,_,_ => none
  | mo6 + 1,x0,y3,y4 => (bif (decide (y3 < (x0.Bridges.length : Int))) then ((idx x0.Bridges y3).bind fun v7 => ((spec_l11CopyF n v7).bind fun r8 => (bif (decide (y4.length + [r8].length ≤ 268435456)) then (spec_l13Copy_L2 n mo6 x0 (IntKind.wrap .i64 (y3 + 1)) (y4 ++ [r8])) else none))) else (some (Sum.inl y4)))
def spec_l13CopyF (n : Nat) (x0 : Net) : Option (Net) :=
  (bif (decide (([] : List Link).length + x0.Links.length ≤ 268435456)) then (bif (decide (([] : List Say).length + x0.Said.length ≤ 268435456)) then ((spec_l13Copy_L2 n n x0 0 ([] : List Bridge)).bind fun o => match o with | .inl y5 => (spec_l13Copy_J1 n x0 y5) | .inr r => some r) else none) else none)
noncomputable abbrev G132 (k : Nat) := Rg Tryz.f132 k
theorem spec_l13Copy (n : Nat) (x0 : Net) (r : Net) (H : spec_l13CopyF n x0 = some r) : LCall Tryz.prog 132 [.val true (CV.frzRow (Net.row x0))] [.val true (Net.row r)] [] := by
 refine LCall.of_body tOk Tryz.func132 rfl (c := (.seq (G132 0) (.seq (Rd Tryz.f132 1) (.seq (.seq (G132 2) (.block 0 (.loop (.seq (.seq (G132 3) (.cond (.tmp 18) .skip (.exit 0))) (.seq (.block 1 (Rd Tryz.f132 5)) (G132 4)))))) (.seq (G132 6) .ret))))) kr (Nat.le_of_ble_eq_true kr) 0 (rs := [.cell 2 29]) rfl [] .nil [(true,(Net.row r))] [] [] fun cx => ?_
 show Tr _ _ _ ⟨33,0,[sV 0 (CV.frzRow (Net.row x0))],[]⟩ _
 unfold spec_l13CopyF at H
 refine tG 2 6 6 kr kr ?_
 obtain ⟨hg1,H⟩ := guard_some H
 obtain ⟨hg2,H⟩ := guard_some H
 refine Tr.draws mixed 11 kr ⟨33,0,[sA 3 3 3 0,sA 2 2 3 0,sA 1 1 3 0],[(3,[cL 11 ([] : List Bridge) Bridge.row,cL 4 (([] : List Link) ++ x0.Links) Link.row,cL 7 (([] : List Say) ++ x0.Said) Say.row]),(2,[cL 11 ([] : List Bridge) Bridge.row,cL 4 ([] : List Link) Link.row,cL 7 ([] : List Say) Say.row]),(1,(CV.frzRow (Net.row x0)))]⟩ (fun cx => ?_) ?_
 ·refine aU [(1,[]),(2,[3,7,8,10]),(5,[]),(6,[7,8,10])] 7 [⟨[7,8,10],27,10,11⟩,⟨[3,7,8,10],26,6,7⟩] [6,5,2,1] rfl kr (fun cx => ?_)
  refine AT.big3 tOk 0 4 9 kr (And.intro kr ?_) (And.intro kr ?_) (And.intro kr ?_)
  ·refine lU 1 kr ?_
   refine lF kr kr kr ?_
   refine AT.big3 tOk 3 4 9 kr (And.intro kr ?_) (And.intro kr ?_) (And.intro kr ?_)
   ·refine LAt.appCU tOk (t := 26) (ty := 26) (e := 126) (x := (.tmp 5)) (y := (.tmp 7)) (d := 8) (g := none) (tI 126) Link.row ([] : List Link) x0.Links ⟨(.box 1),[(0,0)],1,false,4,(CV.frzEs (x0.Links.map Link.row))⟩ kr kr kr kr kr kr kr kr kr kr kr (.inr rfl) (fun _ => rfl) (fun _ => rfl) hg1 ?_
    refine lF kr kr kr ?_
    refine AT.big2 tOk 4 9 kr (And.intro kr ?_) (And.intro kr ?_)
    ·refine lU 1 kr ?_
     refine lF kr kr kr ?_
     refine AT.big2 tOk 7 9 kr (And.intro kr ?_) (And.intro kr ?_)
     ·refine LAt.appCU tOk (t := 27) (ty := 27) (e := 195) (x := (.tmp 9)) (y := (.tmp 11)) (d := 12) (g := none) (tI 195) Say.row ([] : List Say) x0.Said ⟨(.box 1),[(0,0)],2,false,7,(CV.frzEs (x0.Said.map Say.row))⟩ kr kr kr kr kr kr kr kr kr kr kr (.inr rfl) (fun _ => rfl) (fun _ => rfl) hg2 ?_
      refine lF kr kr kr ?_
      refine AT.big2 tOk 8 9 kr (And.intro kr ?_) (And.intro kr ?_)
      ·refine lU 1 kr ?_
       refine lF kr kr kr ?_
       refine b1 9 kr kr ?_
       refine lU 1 kr ?_
       refine lF kr kr kr ?_
       refine b1 10 kr kr ?_
       refine lU 1 kr ?_
       refine lF kr kr kr ?_
       exact AT.done [3,2,1] [3,2,1] _ kr kr rfl
      ·refine lU 1 kr ?_
       refine lF kr kr kr ?_
       refine b1 8 kr kr ?_
       refine lU 1 kr ?_
       refine lF kr kr kr ?_
       refine b1 10 kr kr ?_
       refine lU 1 kr ?_
       refine lF kr kr kr ?_
       exact AT.done [3,2,1] [3,2,1] _ kr kr rfl
     ·refine lU 1 kr ?_
      refine lF kr kr kr ?_
      refine b1 7 kr kr ?_
      refine LAt.appCU tOk (t := 27) (ty := 27) (e := 195) (x := (.tmp 9)) (y := (.tmp 11)) (d := 12) (g := none) (tI 195) Say.row ([] : List Say) x0.Said ⟨(.box 1),[(0,0)],2,false,7,(CV.frzEs (x0.Said.map Say.row))⟩ kr kr kr kr kr kr kr kr kr kr kr (.inr rfl) (fun _ => rfl) (fun _ => rfl) hg2 ?_
      refine lF kr kr kr ?_
      refine b1 8 kr kr ?_
      refine lU 1 kr ?_
      refine lF kr kr kr ?_
      refine b1 10 kr kr ?_
      refine lU 1 kr ?_
      refine lF kr kr kr ?_
      exact AT.done [3,2,1] [3,2,1] _ kr kr rfl
    ·refine lU 1 kr ?_
     refine lF kr kr kr ?_
     refine b1 4 kr kr ?_
     refine lU 1 kr ?_
     refine lF kr kr kr ?_
     refine b1 7 kr kr ?_
     refine LAt.appCU tOk (t := 27) (ty := 27) (e := 195) (x := (.tmp 9)) (y := (.tmp 11)) (d := 12) (g := none) (tI 195) Say.row ([] : List Say) x0.Said ⟨(.box 1),[(0,0)],2,false,7,(CV.frzEs (x0.Said.map Say.row))⟩ kr kr kr kr kr kr kr kr kr kr kr (.inr rfl) (fun _ => rfl) (fun _ => rfl) hg2 ?_
     refine lF kr kr kr ?_
     refine b1 8 kr kr ?_
     refine lU 1 kr ?_
     refine lF kr kr kr ?_
     refine b1 10 kr kr ?_
     refine lU 1 kr ?_
     refine lF kr kr kr ?_
     exact AT.done [3,2,1] [3,2,1] _ kr kr rfl
   ·refine lU 1 kr ?_
    refine lF kr kr kr ?_
    refine AT.big2 tOk 3 9 kr (And.intro kr ?_) (And.intro kr ?_)
    ·refine LAt.appCU tOk (t := 26) (ty := 26) (e := 126) (x := (.tmp 5)) (y := (.tmp 7)) (d := 8) (g := none) (tI 126) Link.row ([] : List Link) x0.Links ⟨(.box 1),[(0,0)],1,false,4,(CV.frzEs (x0.Links.map Link.row))⟩ kr kr kr kr kr kr kr kr kr kr kr (.inr rfl) (fun _ => rfl) (fun _ => rfl) hg1 ?_
     refine lF kr kr kr ?_
     refine AT.big2 tOk 7 9 kr (And.intro kr ?_) (And.intro kr ?_)
     ·refine LAt.appCU tOk (t := 27) (ty := 27) (e := 195) (x := (.tmp 9)) (y := (.tmp 11)) (d := 12) (g := none) (tI 195) Say.row ([] : List Say) x0.Said ⟨(.box 1),[(0,0)],2,false,7,(CV.frzEs (x0.Said.map Say.row))⟩ kr kr kr kr kr kr kr kr kr kr kr (.inr rfl) (fun _ => rfl) (fun _ => rfl) hg2 ?_
      refine lF kr kr kr ?_
      refine AT.big2 tOk 8 9 kr (And.intro kr ?_) (And.intro kr ?_)
      ·refine lU 1 kr ?_
       refine lF kr kr kr ?_
       refine b1 9 kr kr ?_
       refine lU 1 kr ?_
       refine lF kr kr kr ?_
       refine b1 10 kr kr ?_
       refine lU 1 kr ?_
       refine lF kr kr kr ?_
       exact AT.done [3,2,1] [3,2,1] _ kr kr rfl
      ·refine lU 1 kr ?_
       refine lF kr kr kr ?_
       refine b1 8 kr kr ?_
       refine lU 1 kr ?_
       refine lF kr kr kr ?_
       refine b1 10 kr kr ?_
       refine lU 1 kr ?_
       refine lF kr kr kr ?_
       exact AT.done [3,2,1] [3,2,1] _ kr kr rfl
     ·refine lU 1 kr ?_
      refine lF kr kr kr ?_
      refine b1 7 kr kr ?_
      refine LAt.appCU tOk (t := 27) (ty := 27) (e := 195) (x := (.tmp 9)) (y := (.tmp 11)) (d := 12) (g := none) (tI 195) Say.row ([] : List Say) x0.Said ⟨(.box 1),[(0,0)],2,false,7,(CV.frzEs (x0.Said.map Say.row))⟩ kr kr kr kr kr kr kr kr kr kr kr (.inr rfl) (fun _ => rfl) (fun _ => rfl) hg2 ?_
      refine lF kr kr kr ?_
      refine b1 8 kr kr ?_
      refine lU 1 kr ?_
      refine lF kr kr kr ?_
      refine b1 10 kr kr ?_
      refine lU 1 kr ?_
      refine lF kr kr kr ?_
      exact AT.done [3,2,1] [3,2,1] _ kr kr rfl
    ·refine lU 1 kr ?_
     refine lF kr kr kr ?_
     refine b1 3 kr kr ?_
     refine LAt.appCU tOk (t := 26) (ty := 26) (e := 126) (x := (.tmp 5)) (y := (.tmp 7)) (d := 8) (g := none) (tI 126) Link.row ([] : List Link) x0.Links ⟨(.box 1),[(0,0)],1,false,4,(CV.frzEs (x0.Links.map Link.row))⟩ kr kr kr kr kr kr kr kr kr kr kr (.inr rfl) (fun _ => rfl) (fun _ => rfl) hg1 ?_
     refine lF kr kr kr ?_
     refine b1 7 kr kr ?_
     refine LAt.appCU tOk (t := 27) (ty := 27) (e := 195) (x := (.tmp 9)) (y := (.tmp 11)) (d := 12) (g := none) (tI 195) Say.row ([] : List Say) x0.Said ⟨(.box 1),[(0,0)],2,false,7,(CV.frzEs (x0.Said.map Say.row))⟩ kr kr kr kr kr kr kr kr kr kr kr (.inr rfl) (fun _ => rfl) (fun _ => rfl) hg2 ?_
     refine lF kr kr kr ?_
     refine b1 8 kr kr ?_
     refine lU 1 kr ?_
     refine lF kr kr kr ?_
     refine b1 10 kr kr ?_
     refine lU 1 kr ?_
     refine lF kr kr kr ?_
     exact AT.done [3,2,1] [3,2,1] _ kr kr rfl
   ·refine lU 1 kr ?_
    refine lF kr kr kr ?_
    refine AT.big2 tOk 3 4 kr (And.intro kr ?_) (And.intro kr ?_)
    ·refine LAt.appCU tOk (t := 26) (ty := 26) (e := 126) (x := (.tmp 5)) (y := (.tmp 7)) (d := 8) (g := none) (tI 126) Link.row ([] : List Link) x0.Links ⟨(.box 1),[(0,0)],1,false,4,(CV.frzEs (x0.Links.map Link.row))⟩ kr kr kr kr kr kr kr kr kr kr kr (.inr rfl) (fun _ => rfl) (fun _ => rfl) hg1 ?_
     refine lF kr kr kr ?_
     refine b1 4 kr kr ?_
     refine lU 1 kr ?_
     refine lF kr kr kr ?_
     refine b1 7 kr kr ?_
     refine LAt.appCU tOk (t := 27) (ty := 27) (e := 195) (x := (.tmp 9)) (y := (.tmp 11)) (d := 12) (g := none) (tI 195) Say.row ([] : List Say) x0.Said ⟨(.box 1),[(0,0)],2,false,7,(CV.frzEs (x0.Said.map Say.row))⟩ kr kr kr kr kr kr kr kr kr kr kr (.inr rfl) (fun _ => rfl) (fun _ => rfl) hg2 ?_
     refine lF kr kr kr ?_
     refine b1 8 kr kr ?_
     refine lU 1 kr ?_
     refine lF kr kr kr ?_
     refine b1 10 kr kr ?_
     refine lU 1 kr ?_
     refine lF kr kr kr ?_
     exact AT.done [3,2,1] [3,2,1] _ kr kr rfl
    ·refine lU 1 kr ?_
     refine lF kr kr kr ?_
     refine b1 3 kr kr ?_
     refine LAt.appCU tOk (t := 26) (ty := 26) (e := 126) (x := (.tmp 5)) (y := (.tmp 7)) (d := 8) (g := none) (tI 126) Link.row ([] : List Link) x0.Links ⟨(.box 1),[(0,0)],1,false,4,(CV.frzEs (x0.Links.map Link.row))⟩ kr kr kr kr kr kr kr kr kr kr kr (.inr rfl) (fun _ => rfl) (fun _ => rfl) hg1 ?_
     refine lF kr kr kr ?_
     refine b1 7 kr kr ?_
     refine LAt.appCU tOk (t := 27) (ty := 27) (e := 195) (x := (.tmp 9)) (y := (.tmp 11)) (d := 12) (g := none) (tI 195) Say.row ([] : List Say) x0.Said ⟨(.box 1),[(0,0)],2,false,7,(CV.frzEs (x0.Said.map Say.row))⟩ kr kr kr kr kr kr kr kr kr kr kr (.inr rfl) (fun _ => rfl) (fun _ => rfl) hg2 ?_
     refine lF kr kr kr ?_
     refine b1 8 kr kr ?_
     refine lU 1 kr ?_
     refine lF kr kr kr ?_
     refine b1 10 kr kr ?_
     refine lU 1 kr ?_
     refine lF kr kr kr ?_
     exact AT.done [3,2,1] [3,2,1] _ kr kr rfl
  ·refine lU 1 kr ?_
   refine lF kr kr kr ?_
   refine AT.big2 tOk 0 9 kr (And.intro kr ?_) (And.intro kr ?_)
   ·refine lU 1 kr ?_
    refine lF kr kr kr ?_
    refine AT.big2 tOk 3 9 kr (And.intro kr ?_) (And.intro kr ?_)
    ·refine LAt.appCU tOk (t := 26) (ty := 26) (e := 126) (x := (.tmp 5)) (y := (.tmp 7)) (d := 8) (g := none) (tI 126) Link.row ([] : List Link) x0.Links ⟨(.box 1),[(0,0)],1,false,4,(CV.frzEs (x0.Links.map Link.row))⟩ kr kr kr kr kr kr kr kr kr kr kr (.inr rfl) (fun _ => rfl) (fun _ => rfl) hg1 ?_
     refine lF kr kr kr ?_
     refine AT.big2 tOk 7 9 kr (And.intro kr ?_) (And.intro kr ?_)
     ·refine LAt.appCU tOk (t := 27) (ty := 27) (e := 195) (x := (.tmp 9)) (y := (.tmp 11)) (d := 12) (g := none) (tI 195) Say.row ([] : List Say) x0.Said ⟨(.box 1),[(0,0)],2,false,7,(CV.frzEs (x0.Said.map Say.row))⟩ kr kr kr kr kr kr kr kr kr kr kr (.inr rfl) (fun _ => rfl) (fun _ => rfl) hg2 ?_
      refine lF kr kr kr ?_
      refine AT.big2 tOk 8 9 kr (And.intro kr ?_) (And.intro kr ?_)
      ·refine lU 1 kr ?_
       refine lF kr kr kr ?_
       refine b1 9 kr kr ?_
       refine lU 1 kr ?_
       refine lF kr kr kr ?_
       refine b1 10 kr kr ?_
       refine lU 1 kr ?_
       refine lF kr kr kr ?_
       exact AT.done [3,2,1] [3,2,1] _ kr kr rfl
      ·refine lU 1 kr ?_
       refine lF kr kr kr ?_
       refine b1 8 kr kr ?_
       refine lU 1 kr ?_
       refine lF kr kr kr ?_
       refine b1 10 kr kr ?_
       refine lU 1 kr ?_
       refine lF kr kr kr ?_
       exact AT.done [3,2,1] [3,2,1] _ kr kr rfl
     ·refine lU 1 kr ?_
      refine lF kr kr kr ?_
      refine b1 7 kr kr ?_
      refine LAt.appCU tOk (t := 27) (ty := 27) (e := 195) (x := (.tmp 9)) (y := (.tmp 11)) (d := 12) (g := none) (tI 195) Say.row ([] : List Say) x0.Said ⟨(.box 1),[(0,0)],2,false,7,(CV.frzEs (x0.Said.map Say.row))⟩ kr kr kr kr kr kr kr kr kr kr kr (.inr rfl) (fun _ => rfl) (fun _ => rfl) hg2 ?_
      refine lF kr kr kr ?_
      refine b1 8 kr kr ?_
      refine lU 1 kr ?_
      refine lF kr kr kr ?_
      refine b1 10 kr kr ?_
      refine lU 1 kr ?_
      refine lF kr kr kr ?_
      exact AT.done [3,2,1] [3,2,1] _ kr kr rfl
    ·refine lU 1 kr ?_
     refine lF kr kr kr ?_
     refine b1 3 kr kr ?_
     refine LAt.appCU tOk (t := 26) (ty := 26) (e := 126) (x := (.tmp 5)) (y := (.tmp 7)) (d := 8) (g := none) (tI 126) Link.row ([] : List Link) x0.Links ⟨(.box 1),[(0,0)],1,false,4,(CV.frzEs (x0.Links.map Link.row))⟩ kr kr kr kr kr kr kr kr kr kr kr (.inr rfl) (fun _ => rfl) (fun _ => rfl) hg1 ?_
     refine lF kr kr kr ?_
     refine b1 7 kr kr ?_
     refine LAt.appCU tOk (t := 27) (ty := 27) (e := 195) (x := (.tmp 9)) (y := (.tmp 11)) (d := 12) (g := none) (tI 195) Say.row ([] : List Say) x0.Said ⟨(.box 1),[(0,0)],2,false,7,(CV.frzEs (x0.Said.map Say.row))⟩ kr kr kr kr kr kr kr kr kr kr kr (.inr rfl) (fun _ => rfl) (fun _ => rfl) hg2 ?_
     refine lF kr kr kr ?_
     refine b1 8 kr kr ?_
     refine lU 1 kr ?_
     refine lF kr kr kr ?_
     refine b1 10 kr kr ?_
     refine lU 1 kr ?_
     refine lF kr kr kr ?_
     exact AT.done [3,2,1] [3,2,1] _ kr kr rfl
   ·refine lU 1 kr ?_
    refine lF kr kr kr ?_
    refine b1 0 kr kr ?_
    refine lU 1 kr ?_
    refine lF kr kr kr ?_
    refine b1 3 kr kr ?_
    refine LAt.appCU tOk (t := 26) (ty := 26) (e := 126) (x := (.tmp 5)) (y := (.tmp 7)) (d := 8) (g := none) (tI 126) Link.row ([] : List Link) x0.Links ⟨(.box 1),[(0,0)],1,false,4,(CV.frzEs (x0.Links.map Link.row))⟩ kr kr kr kr kr kr kr kr kr kr kr (.inr rfl) (fun _ => rfl) (fun _ => rfl) hg1 ?_
    refine lF kr kr kr ?_
    refine b1 7 kr kr ?_
    refine LAt.appCU tOk (t := 27) (ty := 27) (e := 195) (x := (.tmp 9)) (y := (.tmp 11)) (d := 12) (g := none) (tI 195) Say.row ([] : List Say) x0.Said ⟨(.box 1),[(0,0)],2,false,7,(CV.frzEs (x0.Said.map Say.row))⟩ kr kr kr kr kr kr kr kr kr kr kr (.inr rfl) (fun _ => rfl) (fun _ => rfl) hg2 ?_
    refine lF kr kr kr ?_
    refine b1 8 kr kr ?_
    refine lU 1 kr ?_
    refine lF kr kr kr ?_
    refine b1 10 kr kr ?_
    refine lU 1 kr ?_
    refine lF kr kr kr ?_
    exact AT.done [3,2,1] [3,2,1] _ kr kr rfl
  ·refine lU 1 kr ?_
   refine lF kr kr kr ?_
   refine AT.big2 tOk 0 4 kr (And.intro kr ?_) (And.intro kr ?_)
   ·refine lU 1 kr ?_
    refine lF kr kr kr ?_
    refine AT.big2 tOk 3 4 kr (And.intro kr ?_) (And.intro kr ?_)
    ·refine LAt.appCU tOk (t := 26) (ty := 26) (e := 126) (x := (.tmp 5)) (y := (.tmp 7)) (d := 8) (g := none) (tI 126) Link.row ([] : List Link) x0.Links ⟨(.box 1),[(0,0)],1,false,4,(CV.frzEs (x0.Links.map Link.row))⟩ kr kr kr kr kr kr kr kr kr kr kr (.inr rfl) (fun _ => rfl) (fun _ => rfl) hg1 ?_
     refine lF kr kr kr ?_
     refine b1 4 kr kr ?_
     refine lU 1 kr ?_
     refine lF kr kr kr ?_
     refine b1 7 kr kr ?_
     refine LAt.appCU tOk (t := 27) (ty := 27) (e := 195) (x := (.tmp 9)) (y := (.tmp 11)) (d := 12) (g := none) (tI 195) Say.row ([] : List Say) x0.Said ⟨(.box 1),[(0,0)],2,false,7,(CV.frzEs (x0.Said.map Say.row))⟩ kr kr kr kr kr kr kr kr kr kr kr (.inr rfl) (fun _ => rfl) (fun _ => rfl) hg2 ?_
     refine lF kr kr kr ?_
     refine b1 8 kr kr ?_
     refine lU 1 kr ?_
     refine lF kr kr kr ?_
     refine b1 10 kr kr ?_
     refine lU 1 kr ?_
     refine lF kr kr kr ?_
     exact AT.done [3,2,1] [3,2,1] _ kr kr rfl
    ·refine lU 1 kr ?_
     refine lF kr kr kr ?_
     refine b1 3 kr kr ?_
     refine LAt.appCU tOk (t := 26) (ty := 26) (e := 126) (x := (.tmp 5)) (y := (.tmp 7)) (d := 8) (g := none) (tI 126) Link.row ([] : List Link) x0.Links ⟨(.box 1),[(0,0)],1,false,4,(CV.frzEs (x0.Links.map Link.row))⟩ kr kr kr kr kr kr kr kr kr kr kr (.inr rfl) (fun _ => rfl) (fun _ => rfl) hg1 ?_
     refine lF kr kr kr ?_
     refine b1 7 kr kr ?_
     refine LAt.appCU tOk (t := 27) (ty := 27) (e := 195) (x := (.tmp 9)) (y := (.tmp 11)) (d := 12) (g := none) (tI 195) Say.row ([] : List Say) x0.Said ⟨(.box 1),[(0,0)],2,false,7,(CV.frzEs (x0.Said.map Say.row))⟩ kr kr kr kr kr kr kr kr kr kr kr (.inr rfl) (fun _ => rfl) (fun _ => rfl) hg2 ?_
     refine lF kr kr kr ?_
     refine b1 8 kr kr ?_
     refine lU 1 kr ?_
     refine lF kr kr kr ?_
     refine b1 10 kr kr ?_
     refine lU 1 kr ?_
     refine lF kr kr kr ?_
     exact AT.done [3,2,1] [3,2,1] _ kr kr rfl
   ·refine lU 1 kr ?_
    refine lF kr kr kr ?_
    refine b1 0 kr kr ?_
    refine lU 1 kr ?_
    refine lF kr kr kr ?_
    refine b1 3 kr kr ?_
    refine LAt.appCU tOk (t := 26) (ty := 26) (e := 126) (x := (.tmp 5)) (y := (.tmp 7)) (d := 8) (g := none) (tI 126) Link.row ([] : List Link) x0.Links ⟨(.box 1),[(0,0)],1,false,4,(CV.frzEs (x0.Links.map Link.row))⟩ kr kr kr kr kr kr kr kr kr kr kr (.inr rfl) (fun _ => rfl) (fun _ => rfl) hg1 ?_
    refine lF kr kr kr ?_
    refine b1 7 kr kr ?_
    refine LAt.appCU tOk (t := 27) (ty := 27) (e := 195) (x := (.tmp 9)) (y := (.tmp 11)) (d := 12) (g := none) (tI 195) Say.row ([] : List Say) x0.Said ⟨(.box 1),[(0,0)],2,false,7,(CV.frzEs (x0.Said.map Say.row))⟩ kr kr kr kr kr kr kr kr kr kr kr (.inr rfl) (fun _ => rfl) (fun _ => rfl) hg2 ?_
    refine lF kr kr kr ?_
    refine b1 8 kr kr ?_
    refine lU 1 kr ?_
    refine lF kr kr kr ?_
    refine b1 10 kr kr ?_
    refine lU 1 kr ?_
    refine lF kr kr kr ?_
    exact AT.done [3,2,1] [3,2,1] _ kr kr rfl
 refine tS ?_
 refine tG 1 30 14 kr kr ?_
 obtain ⟨o6,eo6,Ho6⟩ := bind_some H
 clear H
 refine Tr.mid (ι := (List Bridge)) (fun v => ⟨33,0,[sA 3 3 3 0,sA 2 2 3 0],[(3,[cL 11 v Bridge.row,cL 4 (([] : List Link) ++ x0.Links) Link.row,cL 7 (([] : List Say) ++ x0.Said) Say.row]),(2,[cL 11 ([] : List Bridge) Bridge.row,cL 4 ([] : List Link) Link.row,cL 7 ([] : List Say) Say.row])]⟩) (fun v => spec_l13Copy_J1 n x0 v = some r) ?_ ?_
 ·refine tB ?_
  refine Tr.loop (ι := Nat × (Int × (List Bridge))) (fun v => ⟨33,0,[sI 4 v.2.1,sA 3 3 3 0,sA 2 2 3 0,sA 1 1 3 0],[(3,[cL 11 v.2.2 Bridge.row,cL 4 (([] : List Link) ++ x0.Links) Link.row,cL 7 (([] : List Say) ++ x0.Said) Say.row]),(2,[cL 11 ([] : List Bridge) Bridge.row,cL 4 ([] : List Link) Link.row,cL 7 ([] : List Say) Say.row]),(1,(CV.frzRow (Net.row x0)))]⟩) (fun v => spec_l13Copy_L2 n v.1 x0 v.2.1 v.2.2 = some o6) (fun v => v.1) (n,(0,([] : List Bridge))) eo6 (St.sub_of [4,3,2,1] [3,2,1] kr) ?_
  rintro ⟨mo6,y3,y4⟩ H
  have H : spec_l13Copy_L2 n mo6 x0 y3 y4 = some o6 := H
  obtain _ | mo6 := mo6
  ·cases (show (none : Option _) = some o6 from H)
  rw [spec_l13Copy_L2] at H
  refine tS ?_
  refine rU 3 kr ?_
  refine lL 25 3 58 16 17 none ⟨(.slot 16),[],0,false,11,(CV.frzEs (x0.Bridges.map Bridge.row))⟩ (x0.Bridges).length _ kr kr kr kr kr (frz_len _ _) rfl ?_
  refine uD 1 262174 14 kr kr ?_
  obtain ⟨h1,H⟩ | ⟨h1,H⟩ := bC H
  ·refine tF h1 kr ?_
   refine Tr.exit ?_
   refine And.intro (fun _ => ?_) (fun h => absurd rfl h)
   obtain rfl := si H
   have H := Ho6
   dsimp only at H
   exact jn y4 H (sB_ [3,2] [3,2] kr)
  refine tT h1 kr ?_
  refine tK ?_
  refine tS ?_
  refine tB ?_
  obtain ⟨v7,ev7,H⟩ := bind_some H
  obtain ⟨r8,er8,H⟩ := bind_some H
  obtain ⟨hg9,H⟩ := guard_some H
  refine Tr.draw mixed 12 kr ⟨33,0,[sI 4 y3,sA 3 3 3 0,sA 2 2 3 0,sA 1 1 3 0],[(3,[cL 11 (y4 ++ [r8]) Bridge.row,cL 4 (([] : List Link) ++ x0.Links) Link.row,cL 7 (([] : List Say) ++ x0.Said) Say.row]),(2,[cL 11 ([] : List Bridge) Bridge.row,cL 4 ([] : List Link) Link.row,cL 7 ([] : List Say) Say.row]),(1,(CV.frzRow (Net.row x0)))]⟩ (fun cx => ?_) ?_
  ·refine aU [(0,[]),(1,[9,11]),(2,[]),(3,[7,8,9,11]),(4,[])] 7 [⟨[7,8,9,11],25,23,24⟩,⟨[9,11],25,21,22⟩] [4,3,2,1,0] rfl kr (fun cx => ?_)
   refine aI 5 25 0 24 25 26 none ⟨(.box 1),[(0,0)],0,false,11,(CV.frzEs (x0.Bridges.map Bridge.row))⟩ y3 (CV.frzRow (Bridge.row v7)) _ kr kr kr kr kr kr rfl (idx_isF ev7) rfl (fun cx => ?_)
   refine aU [(6,[])] 5 [⟨[7,8,9,11],25,23,24⟩,⟨[9,11],25,21,22⟩] [6,5,4,3,2,1,0] rfl kr (fun cx => ?_)
   refine b1 7 kr kr ?_
   refine lV [.rd] [] (spec_l11Copy n v7 r8 er8) kr kr kr kr (.inl rfl) ?_
   refine lF kr kr kr ?_
   refine b1 8 kr kr ?_
   refine lU 1 kr ?_
   refine lF kr kr kr ?_
   refine b1 9 kr kr ?_
   refine LAt.appMU tOk (t := 25) (ty := 25) (e := 58) (x := (.tmp 22)) (y := (.tmp 29)) (d := 30) (g := none) (tI 58) Bridge.row y4 [r8] kr kr kr kr kr kr kr kr kr kr hg9 ?_
   refine lF kr kr kr ?_
   refine aU [(10,[])] 1 [⟨[7,8,9,11],25,23,24⟩,⟨[9,11],25,21,22⟩] [10,9,8,7,6,5,4,3,2,1,0] rfl kr (fun cx => ?_)
   refine b1 11 kr kr ?_
   refine lU 1 kr ?_
   refine lF kr kr kr ?_
   exact AT.done [4,3,2,1] [3,2,1] _ kr kr rfl
  refine tE 3 30 14 kr kr ?_
  exact jn (mo6,((w6 (y3 + 1)),(y4 ++ [r8]))) H (sM mo6 [4,3,2,1] [3,2,1] kr)
 rintro y5 H
 have H : (spec_l13Copy_J1 n x0 y5) = some r := H
 unfold spec_l13Copy_J1 at H
 refine tG 2 4 4 kr kr ?_
 exact te (by obtain rfl := si H; exact fO [(true,[cL 11 y5 Bridge.row,cL 4 (([] : List Link) ++ x0.Links) Link.row,cL 7 (([] : List Say) ++ x0.Said) Say.row])] kr rfl rfl)
def spec_l1InF (n : Nat) (x0 : Int) (x1 : Int) (x2 : Int) : Option (Bool) :=
  (bif (decide (x0 ≥ x1)) then (some (decide (x0 ≤ x2))) else (some false))
theorem spec_l1In (n : Nat) (x0 : Int) (x1 : Int) (x2 : Int) (r : Bool) (H : spec_l1InF n x0 x1 x2 = some r) : LCall Tryz.prog 140 [.val false [.lit (.int .i64 x0)],.val false [.lit (.int .i64 x1)],.val false [.lit (.int .i64 x2)]] [.val false [.lit (.bool r)]] [] := by
 refine LCall.of_body tOk Tryz.func140 rfl (c := (.seq (Rg Tryz.f140 0) (.seq (Rg Tryz.f140 1) .ret))) kr (Nat.le_of_ble_eq_true kr) 0 (rs := [.tmp 6]) rfl [] .nil [(false,[.lit (.bool r)])] [] [] fun cx => ?_
 show Tr _ _ _ ⟨15,0,[sI 0 x0,sI 1 x1,sI 2 x2],[]⟩ _
 unfold spec_l1InF at H
 refine tG 1 7 0 kr kr ?_
 refine rU 4 kr ?_
 refine lT ⟨15,0,[sB 10 (decide (x0 ≥ x1)),sB 9 (decide (x0 ≥ x1)),sI 8 x1,sI 7 x0,sI 0 x0,sI 1 x1,sI 2 x2],[]⟩ kr ?_
 cases h1 : (decide (x0 ≥ x1))
 ·have H := bifF h1 H
  refine uD 5 64 0 kr kr ?_
  exact te (by obtain rfl := si H; exact fO [(false,[cB false])] kr rfl rfl)
 have H := bifT h1 H
 refine uD 5 64 0 kr kr ?_
 exact te (by obtain rfl := si H; exact fO [(false,[cB (decide (x0 ≤ x2))])] kr rfl rfl)
def spec_VecOkF (n : Nat) (x0 : Vec) : Option (Bool) :=
  ((spec_l1InF n x0.Root 1 99).bind fun r1 => (bif r1 then ((spec_l1InF n x0.Cost 0 100000).bind fun r2 => (bif r2 then ((spec_l1InF n x0.Hops 0 10).bind fun r3 => (bif r3 then ((spec_l1InF n x0.Bridge 1 99).bind fun r4 => (bif r4 then ((spec_l1InF n x0.Port 0 7).bind fun r5 => (some r5)) else (some false))) else (some false))) else (some false))) else (some false)))
theorem spec_VecOk (n : Nat) (x0 : Vec) (r : Bool) (H : spec_VecOkF n x0 = some r) : LCall Tryz.prog 177 [.val true (CV.frzRow (Vec.row x0))] [.val false [.lit (.bool r)]] [] := by
 refine LCall.of_body tOk Tryz.func177 rfl (c := (.seq (Rg Tryz.f177 0) (.seq (Rg Tryz.f177 1) .ret))) kr (Nat.le_of_ble_eq_true kr) 0 (rs := [.tmp 2]) rfl [] .nil [(false,[.lit (.bool r)])] [] [] fun cx => ?_
 show Tr _ _ _ ⟨26,0,[sV 0 (Vec.row x0)],[]⟩ _
 unfold spec_VecOkF at H
 refine tG 2 2 2 kr kr ?_
 refine rU 2 kr ?_
 obtain ⟨r1,er1,H⟩ := bind_some H
 refine lV [.rd,.rd,.rd] [] (spec_l1In n x0.Root 1 99 r1 er1) kr kr kr kr (.inl rfl) ?_
 refine lU 1 kr ?_
 refine lT ⟨26,0,[sB 6 r1,sB 5 r1,sI 4 x0.Root,sA 3 1 5 0,sA 1 1 5 0],[(1,(Vec.row x0))]⟩ kr ?_
 cases h1 : r1
 ·have H := bifF h1 H
  refine uD 20 4 0 kr kr ?_
  exact te (by obtain rfl := si H; exact fO [(false,[cB false])] kr rfl rfl)
 have H := bifT h1 H
 refine lU 2 kr ?_
 obtain ⟨r2,er2,H⟩ := bind_some H
 refine lV [.rd,.rd,.rd] [] (spec_l1In n x0.Cost 0 100000 r2 er2) kr kr kr kr (.inl rfl) ?_
 refine lU 2 kr ?_
 refine lT ⟨26,0,[sB 11 r2,sB 10 r2,sB 9 r2,sI 8 x0.Cost,sA 7 1 5 1,sB 6 true,sB 5 true,sI 4 x0.Root,sA 3 1 5 0,sA 1 1 5 0],[(1,(Vec.row x0))]⟩ kr ?_
 cases h2 : r2
 ·have H := bifF h2 H
  refine uD 15 4 0 kr kr ?_
  exact te (by obtain rfl := si H; exact fO [(false,[cB false])] kr rfl rfl)
 have H := bifT h2 H
 refine lU 2 kr ?_
 obtain ⟨r3,er3,H⟩ := bind_some H
 refine lV [.rd,.rd,.rd] [] (spec_l1In n x0.Hops 0 10 r3 er3) kr kr kr kr (.inl rfl) ?_
 refine lU 2 kr ?_
 refine lT ⟨26,0,[sB 16 r3,sB 15 r3,sB 14 r3,sI 13 x0.Hops,sA 12 1 5 2,sB 11 true,sB 10 true,sB 9 true,sI 8 x0.Cost,sA 7 1 5 1,sB 6 true,sB 5 true,sI 4 x0.Root,sA 3 1 5 0,sA 1 1 5 0],[(1,(Vec.row x0))]⟩ kr ?_
 cases h3 : r3
 ·have H := bifF h3 H
  refine uD 10 4 0 kr kr ?_
  exact te (by obtain rfl := si H; exact fO [(false,[cB false])] kr rfl rfl)
 have H := bifT h3 H
 refine lU 2 kr ?_
 obtain ⟨r4,er4,H⟩ := bind_some H
 refine lV [.rd,.rd,.rd] [] (spec_l1In n x0.Bridge 1 99 r4 er4) kr kr kr kr (.inl rfl) ?_
 refine lU 2 kr ?_
 refine lT ⟨26,0,[sB 21 r4,sB 20 r4,sB 19 r4,sI 18 x0.Bridge,sA 17 1 5 3,sB 16 true,sB 15 true,sB 14 true,sI 13 x0.Hops,sA 12 1 5 2,sB 11 true,sB 10 true,sB 9 true,sI 8 x0.Cost,sA 7 1 5 1,sB 6 true,sB 5 true,sI 4 x0.Root,sA 3 1 5 0,sA 1 1 5 0],[(1,(Vec.row x0))]⟩ kr ?_
 cases h4 : r4
 ·have H := bifF h4 H
  refine uD 5 4 0 kr kr ?_
  exact te (by obtain rfl := si H; exact fO [(false,[cB false])] kr rfl rfl)
 have H := bifT h4 H
 refine lU 2 kr ?_
 obtain ⟨r5,er5,H⟩ := bind_some H
 refine lV [.rd,.rd,.rd] [] (spec_l1In n x0.Port 0 7 r5 er5) kr kr kr kr (.inl rfl) ?_
 refine uD 2 4 0 kr kr ?_
 exact te (by obtain rfl := si H; exact fO [(false,[cB r5])] kr rfl rfl)
def spec_PtOkF (n : Nat) (x0 : Pt) : Option (Bool) :=
  ((spec_l1InF n x0.Cost 1 1000).bind fun r1 => (bif (!r1) then (some false) else (bif (!x0.Up) then (bif x0.Has then (some false) else (some ((x0.Heard.Root == 0) && ((x0.Heard.Cost == 0) && ((x0.Heard.Hops == 0) && ((x0.Heard.Bridge == 0) && ((x0.Heard.Port == 0) && true))))))) else (bif (!x0.Has) then (some ((x0.Heard.Root == 0) && ((x0.Heard.Cost == 0) && ((x0.Heard.Hops == 0) && ((x0.Heard.Bridge == 0) && ((x0.Heard.Port == 0) && true)))))) else ((spec_VecOkF n x0.Heard).bind fun r2 => (some r2))))))
noncomputable abbrev G239 (k : Nat) := Rg Tryz.f239 k
theorem spec_PtOk (n : Nat) (x0 : Pt) (r : Bool) (H : spec_PtOkF n x0 = some r) : LCall Tryz.prog 239 [.val true (CV.frzRow (Pt.row x0))] [.val false [.lit (.bool r)]] [] := by
 refine LCall.of_body tOk Tryz.func239 rfl (c := (.seq (G239 0) (.seq (.seq (G239 1) (.cond (.tmp 15) (.seq (G239 2) .ret) .skip)) (.seq (.seq (G239 3) (.cond (.tmp 18) (.seq (G239 4) .ret) .skip)) (.seq (G239 5) .ret))))) kr (Nat.le_of_ble_eq_true kr) 0 (rs := [.tmp 2]) rfl [] .nil [(false,[.lit (.bool r)])] [] [] fun cx => ?_
 show Tr _ _ _ ⟨26,0,[sV 0 (Pt.row x0)],[]⟩ _
 unfold spec_PtOkF at H
 refine tG 2 2 2 kr kr ?_
 refine tS ?_
 refine rU 2 kr ?_
 obtain ⟨r1,er1,H⟩ := bind_some H
 refine lV [.rd,.rd,.rd] [] (spec_l1In n x0.Cost 1 1000 r1 er1) kr kr kr kr (.inl rfl) ?_
 refine lU 2 kr ?_
 refine lT ⟨26,0,[sB 7 (!r1),sB 6 (!r1),sB 5 r1,sI 4 x0.Cost,sA 3 1 8 1,sA 1 1 8 0],[(1,(Pt.row x0))]⟩ kr ?_
 cases h1 : (!r1)
 ·have H := bifF h1 H
  refine lU 4 kr ?_
  refine lT ⟨26,0,[sB 11 (!x0.Up),sB 10 (!x0.Up),sB 9 x0.Up,sA 8 1 8 0,sB 7 false,sB 6 false,sB 5 r1,sI 4 x0.Cost,sA 3 1 8 1,sA 1 1 8 0],[(1,(Pt.row x0))]⟩ kr ?_
  cases h2 : (!x0.Up)
  ·have H := bifF h2 H
   refine uD 4 32770 2 kr kr ?_
   refine tf kr ?_
   refine tK ?_
   refine tS ?_
   refine tG 3 262146 2 kr kr ?_
   obtain ⟨h3,H⟩ | ⟨h3,H⟩ := bC H
   ·refine tF h3 kr ?_
    refine tK ?_
    refine rU 2 kr ?_
    obtain ⟨r2,er2,H⟩ := bind_some H
    refine lV [.rd] [] (spec_VecOk n x0.Heard r2 er2) kr kr kr kr (.inl rfl) ?_
    refine uD 1 4 0 kr kr ?_
    exact te (by obtain rfl := si H; exact fO [(false,[cB r2])] kr rfl rfl)
   refine tT h3 kr ?_
   refine rU 3 kr ?_
   refine LAt.eqSG false (t := 162) (ty := 162) (ty' := 4) (x := (.tmp 20)) (y := (.tmp 21)) (d := 22) (g := none) ((x0.Heard.Root == 0) && ((x0.Heard.Cost == 0) && ((x0.Heard.Hops == 0) && ((x0.Heard.Bridge == 0) && ((x0.Heard.Port == 0) && true))))) _ kr kr kr kr rfl ?_
   refine uD 1 4 0 kr kr ?_
   exact te (by obtain rfl := si H; exact fO [(false,[cB ((x0.Heard.Root == 0) && ((x0.Heard.Cost == 0) && ((x0.Heard.Hops == 0) && ((x0.Heard.Bridge == 0) && ((x0.Heard.Port == 0) && true)))))])] kr rfl rfl)
  have H := bifT h2 H
  refine uD 4 32770 2 kr kr ?_
  refine tO ⟨26,0,[sB 15 x0.Has,sA 1 1 8 0],[(1,(Pt.row x0))]⟩ kr ?_
  cases h4 : x0.Has
  ·have H := bifF h4 H
   refine tf kr ?_
   refine tK ?_
   refine tS ?_
   refine tG 3 262146 2 kr kr ?_
   refine tO ⟨26,0,[sB 18 (!x0.Has),sA 1 1 8 0],[(1,(Pt.row x0))]⟩ kr ?_
   rw [h4]
   refine tt kr ?_
   refine rU 3 kr ?_
   refine LAt.eqSG false (t := 162) (ty := 162) (ty' := 4) (x := (.tmp 20)) (y := (.tmp 21)) (d := 22) (g := none) ((x0.Heard.Root == 0) && ((x0.Heard.Cost == 0) && ((x0.Heard.Hops == 0) && ((x0.Heard.Bridge == 0) && ((x0.Heard.Port == 0) && true))))) _ kr kr kr kr rfl ?_
   refine uD 1 4 0 kr kr ?_
   exact te (by obtain rfl := si H; exact fO [(false,[cB ((x0.Heard.Root == 0) && ((x0.Heard.Cost == 0) && ((x0.Heard.Hops == 0) && ((x0.Heard.Bridge == 0) && ((x0.Heard.Port == 0) && true)))))])] kr rfl rfl)
  have H := bifT h4 H
  refine tt kr ?_
  refine tG 1 4 0 kr kr ?_
  exact te (by obtain rfl := si H; exact fO [(false,[cB false])] kr rfl rfl)
 have H := bifT h1 H
 refine uD 8 32770 2 kr kr ?_
 refine tt kr ?_
 refine tG 1 4 0 kr kr ?_
 exact te (by obtain rfl := si H; exact fO [(false,[cB false])] kr rfl rfl)
def spec_l8EntF (n : Nat) (x0 : Fent) : Option (Bool) :=
  ((spec_l1InF n x0.Tag 1 99).bind fun r1 => (bif r1 then ((spec_l1InF n x0.Mac 1 9999).bind fun r2 => (bif r2 then ((spec_l1InF n x0.Port 0 7).bind fun r3 => (bif r3 then ((spec_l1InF n x0.Age 0 4).bind fun r4 => (bif r4 then (bif (!x0.Static) then (some true) else (some (x0.Age == 0))) else (some false))) else (some false))) else (some false))) else (some false)))
theorem spec_l8Ent (n : Nat) (x0 : Fent) (r : Bool) (H : spec_l8EntF n x0 = some r) : LCall Tryz.prog 198 [.val true (CV.frzRow (Fent.row x0))] [.val false [.lit (.bool r)]] [] := by
 refine LCall.of_body tOk Tryz.func198 rfl (c := (.seq (Rg Tryz.f198 0) (.seq (Rg Tryz.f198 1) .ret))) kr (Nat.le_of_ble_eq_true kr) 0 (rs := [.tmp 2]) rfl [] .nil [(false,[.lit (.bool r)])] [] [] fun cx => ?_
 show Tr _ _ _ ⟨31,0,[sV 0 (Fent.row x0)],[]⟩ _
 unfold spec_l8EntF at H
 refine tG 2 2 2 kr kr ?_
 refine rU 2 kr ?_
 obtain ⟨r1,er1,H⟩ := bind_some H
 refine lV [.rd,.rd,.rd] [] (spec_l1In n x0.Tag 1 99 r1 er1) kr kr kr kr (.inl rfl) ?_
 refine lU 1 kr ?_
 refine lT ⟨31,0,[sB 6 r1,sB 5 r1,sI 4 x0.Tag,sA 3 1 5 0,sA 1 1 5 0],[(1,(Fent.row x0))]⟩ kr ?_
 cases h1 : r1
 ·have H := bifF h1 H
  refine uD 25 4 0 kr kr ?_
  exact te (by obtain rfl := si H; exact fO [(false,[cB false])] kr rfl rfl)
 have H := bifT h1 H
 refine lU 2 kr ?_
 obtain ⟨r2,er2,H⟩ := bind_some H
 refine lV [.rd,.rd,.rd] [] (spec_l1In n x0.Mac 1 9999 r2 er2) kr kr kr kr (.inl rfl) ?_
 refine lU 2 kr ?_
 refine lT ⟨31,0,[sB 11 r2,sB 10 r2,sB 9 r2,sI 8 x0.Mac,sA 7 1 5 1,sB 6 true,sB 5 true,sI 4 x0.Tag,sA 3 1 5 0,sA 1 1 5 0],[(1,(Fent.row x0))]⟩ kr ?_
 cases h2 : r2
 ·have H := bifF h2 H
  refine uD 20 4 0 kr kr ?_
  exact te (by obtain rfl := si H; exact fO [(false,[cB false])] kr rfl rfl)
 have H := bifT h2 H
 refine lU 2 kr ?_
 obtain ⟨r3,er3,H⟩ := bind_some H
 refine lV [.rd,.rd,.rd] [] (spec_l1In n x0.Port 0 7 r3 er3) kr kr kr kr (.inl rfl) ?_
 refine lU 2 kr ?_
 refine lT ⟨31,0,[sB 16 r3,sB 15 r3,sB 14 r3,sI 13 x0.Port,sA 12 1 5 2,sB 11 true,sB 10 true,sB 9 true,sI 8 x0.Mac,sA 7 1 5 1,sB 6 true,sB 5 true,sI 4 x0.Tag,sA 3 1 5 0,sA 1 1 5 0],[(1,(Fent.row x0))]⟩ kr ?_
 cases h3 : r3
 ·have H := bifF h3 H
  refine uD 15 4 0 kr kr ?_
  exact te (by obtain rfl := si H; exact fO [(false,[cB false])] kr rfl rfl)
 have H := bifT h3 H
 refine lU 2 kr ?_
 obtain ⟨r4,er4,H⟩ := bind_some H
 refine lV [.rd,.rd,.rd] [] (spec_l1In n x0.Age 0 4 r4 er4) kr kr kr kr (.inl rfl) ?_
 refine lU 2 kr ?_
 refine lT ⟨31,0,[sB 21 r4,sB 20 r4,sB 19 r4,sI 18 x0.Age,sA 17 1 5 3,sB 16 true,sB 15 true,sB 14 true,sI 13 x0.Port,sA 12 1 5 2,sB 11 true,sB 10 true,sB 9 true,sI 8 x0.Mac,sA 7 1 5 1,sB 6 true,sB 5 true,sI 4 x0.Tag,sA 3 1 5 0,sA 1 1 5 0],[(1,(Fent.row x0))]⟩ kr ?_
 cases h4 : r4
 ·have H := bifF h4 H
  refine uD 10 4 0 kr kr ?_
  exact te (by obtain rfl := si H; exact fO [(false,[cB false])] kr rfl rfl)
 have H := bifT h4 H
 refine lU 4 kr ?_
 refine lT ⟨31,0,[sB 25 (!x0.Static),sB 24 (!x0.Static),sB 23 x0.Static,sA 22 1 5 4,sB 21 true,sB 20 true,sB 19 true,sI 18 x0.Age,sA 17 1 5 3,sB 16 true,sB 15 true,sB 14 true,sI 13 x0.Port,sA 12 1 5 2,sB 11 true,sB 10 true,sB 9 true,sI 8 x0.Mac,sA 7 1 5 1,sB 6 true,sB 5 true,sI 4 x0.Tag,sA 3 1 5 0,sA 1 1 5 0],[(1,(Fent.row x0))]⟩ kr ?_
 cases h5 : (!x0.Static)
 ·have H := bifF h5 H
  refine uD 6 4 0 kr kr ?_
  exact te (by obtain rfl := si H; exact fO [(false,[cB (x0.Age == 0)])] kr rfl rfl)
 have H := bifT h5 H
 refine uD 6 4 0 kr kr ?_
 exact te (by obtain rfl := si H; exact fO [(false,[cB true])] kr rfl rfl)
def spec_l8AheadF (n : Nat) (x0 : Fent) (x1 : Int) (x2 : Int) : Option (Bool) :=
  (bif (x0.Tag != x1) then (some (decide (x0.Tag < x1))) else (some (decide (x0.Mac < x2))))
theorem spec_l8Ahead (n : Nat) (x0 : Fent) (x1 : Int) (x2 : Int) (r : Bool) (H : spec_l8AheadF n x0 x1 x2 = some r) : LCall Tryz.prog 244 [.val true (CV.frzRow (Fent.row x0)),.val false [.lit (.int .i64 x1)],.val false [.lit (.int .i64 x2)]] [.val false [.lit (.bool r)]] [] := by
 refine LCall.of_body tOk Tryz.func244 rfl (c := (.seq (Rg Tryz.f244 0) (.seq (.seq (Rg Tryz.f244 1) (.cond (.tmp 10) (.seq (Rg Tryz.f244 2) .ret) .skip)) (.seq (Rg Tryz.f244 3) .ret)))) kr (Nat.le_of_ble_eq_true kr) 0 (rs := [.tmp 6]) rfl [] .nil [(false,[.lit (.bool r)])] [] [] fun cx => ?_
 show Tr _ _ _ ⟨19,0,[sV 0 (Fent.row x0),sI 1 x1,sI 2 x2],[]⟩ _
 unfold spec_l8AheadF at H
 refine tG 2 14 8 kr kr ?_
 refine tS ?_
 refine tG 4 1038 8 kr kr ?_
 obtain ⟨h1,H⟩ | ⟨h1,H⟩ := bC H
 ·refine tF h1 kr ?_
  refine tK ?_
  refine tG 5 64 0 kr kr ?_
  exact te (by obtain rfl := si H; exact fO [(false,[cB (decide (x0.Mac < x2))])] kr rfl rfl)
 refine tT h1 kr ?_
 refine tG 5 64 0 kr kr ?_
 exact te (by obtain rfl := si H; exact fO [(false,[cB (decide (x0.Tag < x1))])] kr rfl rfl)
def spec_FdbOk_J1 (n : Nat) (x0 : (List Fent)) : Option (Bool) :=
  (some (decide ((x0.length : Int) ≤ 12)))
def spec_FdbOk_L2 (n : Nat) : Nat → (List Fent) → Int → Option ((Unit) ⊕ (Bool))
  | 0,_,_ => none
  | mo2 + 1,x0,y1 => (bif (decide (y1 < (x0.length : Int))) then ((idx x0 y1).bind fun v3 => ((spec_l8EntF n v3).bind fun r4 => (bif (!r4) then (some (Sum.inr false)) else (bif (decide (y1 > 0)) then ((idx x0 (IntKind.wrap .i64 (y1 - 1))).bind fun v5 => ((idx x0 y1).bind fun v6 => ((idx x0 y1).bind fun v7 => ((spec_l8AheadF n v5 v6.Tag v7.Mac).bind fun r8 => (bif (!r8) then (some (Sum.inr false)) else (spec_FdbOk_L2 n mo2 x0 (IntKind.wrap .i64 (y1 + 1)))))))) else (spec_FdbOk_L2 n mo2 x0 (IntKind.wrap .i64 (y1 + 1))))))) else (some (Sum.inl ())))
def spec_FdbOkF (n : Nat) (x0 : (List Fent)) : Option (Bool) :=
  ((spec_FdbOk_L2 n n x0 0).bind fun o => match o with | .inl _ => (spec_FdbOk_J1 n x0) | .inr r => some r)
noncomputable abbrev G197 (k : Nat) := Rg Tryz.f197 k
theorem spec_FdbOk (n : Nat) (x0 : (List Fent)) (r : Bool) (H : spec_FdbOkF n x0 = some r) : LCall Tryz.prog 197 [.val false [.sl false 5 (CV.frzEs (x0.map Fent.row))]] [.val false [.lit (.bool r)]] [] := by
 refine LCall.of_body tOk Tryz.func197 rfl (c := (.seq (G197 0) (.seq (.seq (G197 1) (.block 0 (.loop (.seq (.seq (G197 2) (.cond (.tmp 7) .skip (.exit 0))) (.seq (.block 1 (.seq (Rd Tryz.f197 4) (.cond (.tmp 38) (.seq (G197 5) .ret) .skip))) (G197 3)))))) (.seq (G197 6) .ret)))) kr (Nat.le_of_ble_eq_true kr) 0 (rs := [.tmp 2]) rfl [] .nil [(false,[.lit (.bool r)])] [] [] fun cx => ?_
 show Tr _ _ _ ⟨42,0,[sC 0 (cF 5 x0 Fent.row)],[]⟩ _
 unfold spec_FdbOkF at H
 refine tG 1 1 0 kr kr ?_
 refine tS ?_
 refine tG 1 9 0 kr kr ?_
 obtain ⟨o2,eo2,Ho2⟩ := bind_some H
 clear H
 refine Tr.mid (ι := Unit) (fun v => ⟨42,0,[sC 0 (cF 5 x0 Fent.row)],[]⟩) (fun v => spec_FdbOk_J1 n x0 = some r) ?_ ?_
 ·refine tB ?_
  refine Tr.loop (ι := Nat × (Int)) (fun v => ⟨42,0,[sI 3 v.2,sC 0 (cF 5 x0 Fent.row)],[]⟩) (fun v => spec_FdbOk_L2 n v.1 x0 v.2 = some o2) (fun v => v.1) (n,0) eo2 (St.sub_of [3,0] [] kr) ?_
  rintro ⟨mo2,y1⟩ H
  have H : spec_FdbOk_L2 n mo2 x0 y1 = some o2 := H
  obtain _ | mo2 := mo2
  ·cases (show (none : Option _) = some o2 from H)
  rw [spec_FdbOk_L2] at H
  refine tS ?_
  refine rU 2 kr ?_
  refine lL 53 3 184 5 6 none ⟨(.slot 5),[],0,false,5,(CV.frzEs (x0.map Fent.row))⟩ (x0).length _ kr kr kr kr kr (frz_len _ _) rfl ?_
  refine uD 1 137 0 kr kr ?_
  obtain ⟨h1,H⟩ | ⟨h1,H⟩ := bC H
  ·refine tF h1 kr ?_
   refine Tr.exit ?_
   refine And.intro (fun _ => ?_) (fun h => absurd rfl h)
   obtain rfl := si H
   have H := Ho2
   dsimp only at H
   exact jn () H (sB_ [0] [] kr)
  refine tT h1 kr ?_
  refine tK ?_
  refine tS ?_
  refine tB ?_
  obtain ⟨v3,ev3,H⟩ := bind_some H
  obtain ⟨r4,er4,H⟩ := bind_some H
  refine tO ⟨42,0,[sB 7 (decide (y1 < (x0.length : Int))),sI 3 y1,sC 0 (cF 5 x0 Fent.row)],[]⟩ kr ?_
  cases h2 : (!r4)
  ·have H := bifF h2 H
   refine tO ⟨42,0,[sB 7 (decide (y1 < (x0.length : Int))),sI 3 y1,sC 0 (cF 5 x0 Fent.row)],[]⟩ kr ?_
   cases h3 : (decide (y1 > 0))
   ·have H := bifF h3 H
    refine Tr.draws mixed 29 kr ⟨42,0,[sB 38 false,sI 3 y1,sC 0 (cF 5 x0 Fent.row)],[]⟩ (fun cx => ?_) ?_
    ·refine aU [(0,[]),(1,[])] 27 [] [1,0] rfl kr (fun cx => ?_)
     refine aI 2 53 0 10 11 12 none ⟨(.slot 10),[],0,false,5,(CV.frzEs (x0.map Fent.row))⟩ y1 (Fent.row v3) _ kr kr kr kr kr kr rfl (idx_isF ev3) rfl (fun cx => ?_)
     refine aU [(3,[])] 25 [] [3,2,1,0] rfl kr (fun cx => ?_)
     refine b1 4 kr kr ?_
     refine lV [.rd] [] (spec_l8Ent n v3 r4 er4) kr kr kr kr (.inl rfl) ?_
     refine lF kr kr kr ?_
     refine aU [(5,[]),(6,[])] 22 [] [6,5,4,3,2,1,0] rfl kr (fun cx => ?_)
     refine aT ⟨42,0,[sB 16 (!r4),sB 15 (!r4),sB 14 r4,sV 13 (Fent.row v3),(12,.fad ((Fent.row v3))),sI 11 y1,sC 10 (cF 5 x0 Fent.row),sB 7 (decide (y1 < (x0.length : Int))),sI 3 y1,sC 0 (cF 5 x0 Fent.row)],[]⟩ kr ?_
     rw [h2]
     refine aU [(7,[]),(8,[]),(9,[])] 19 [] [9,8,7,6,5,4,3,2,1,0] rfl kr (fun cx => ?_)
     refine aT ⟨42,0,[sB 19 (decide (y1 > 0)),sB 18 (decide (y1 > 0)),sI 17 y1,sB 16 false,sB 15 false,sB 14 r4,sV 13 (Fent.row v3),(12,.fad ((Fent.row v3))),sI 11 y1,sC 10 (cF 5 x0 Fent.row),sB 7 (decide (y1 < (x0.length : Int))),sI 3 y1,sC 0 (cF 5 x0 Fent.row)],[]⟩ kr ?_
     rw [h3]
     refine aU [(10,[]),(11,[]),(12,[]),(13,[]),(14,[]),(15,[]),(16,[]),(17,[]),(18,[]),(19,[]),(20,[]),(21,[]),(22,[]),(23,[]),(24,[]),(25,[]),(26,[]),(27,[]),(28,[])] 0 [] [28,27,26,25,24,23,22,21,20,19,18,17,16,15,14,13,12,11,10,9,8,7,6,5,4,3,2,1,0] rfl kr (fun cx => ?_)
     exact AT.done [38,3,0] [] _ kr kr rfl
    refine tf kr ?_
    refine tK ?_
    refine tE 3 9 0 kr kr ?_
    exact jn (mo2,(w6 (y1 + 1))) H (sM mo2 [3,0] [] kr)
   have H := bifT h3 H
   obtain ⟨v5,ev5,H⟩ := bind_some H
   obtain ⟨v6,ev6,H⟩ := bind_some H
   obtain ⟨v7,ev7,H⟩ := bind_some H
   obtain ⟨r8,er8,H⟩ := bind_some H
   refine Tr.draws mixed 29 kr ⟨42,0,[sB 38 (!r8),sI 3 y1,sC 0 (cF 5 x0 Fent.row)],[]⟩ (fun cx => ?_) ?_
   ·refine aU [(0,[]),(1,[])] 27 [] [1,0] rfl kr (fun cx => ?_)
    refine aI 2 53 0 10 11 12 none ⟨(.slot 10),[],0,false,5,(CV.frzEs (x0.map Fent.row))⟩ y1 (Fent.row v3) _ kr kr kr kr kr kr rfl (idx_isF ev3) rfl (fun cx => ?_)
    refine aU [(3,[])] 25 [] [3,2,1,0] rfl kr (fun cx => ?_)
    refine b1 4 kr kr ?_
    refine lV [.rd] [] (spec_l8Ent n v3 r4 er4) kr kr kr kr (.inl rfl) ?_
    refine lF kr kr kr ?_
    refine aU [(5,[]),(6,[])] 22 [] [6,5,4,3,2,1,0] rfl kr (fun cx => ?_)
    refine aT ⟨42,0,[sB 16 (!r4),sB 15 (!r4),sB 14 r4,sV 13 (Fent.row v3),(12,.fad ((Fent.row v3))),sI 11 y1,sC 10 (cF 5 x0 Fent.row),sB 7 (decide (y1 < (x0.length : Int))),sI 3 y1,sC 0 (cF 5 x0 Fent.row)],[]⟩ kr ?_
    rw [h2]
    refine aU [(7,[]),(8,[]),(9,[])] 19 [] [9,8,7,6,5,4,3,2,1,0] rfl kr (fun cx => ?_)
    refine aT ⟨42,0,[sB 19 (decide (y1 > 0)),sB 18 (decide (y1 > 0)),sI 17 y1,sB 16 false,sB 15 false,sB 14 r4,sV 13 (Fent.row v3),(12,.fad ((Fent.row v3))),sI 11 y1,sC 10 (cF 5 x0 Fent.row),sB 7 (decide (y1 < (x0.length : Int))),sI 3 y1,sC 0 (cF 5 x0 Fent.row)],[]⟩ kr ?_
    rw [h3]
    refine aU [(10,[]),(11,[]),(12,[])] 16 [] [12,11,10,9,8,7,6,5,4,3,2,1,0] rfl kr (fun cx => ?_)
    refine aI 13 53 0 20 22 23 (some (9,true)) ⟨(.slot 20),[],0,false,5,(CV.frzEs (x0.map Fent.row))⟩ (w6 (y1 - 1)) (Fent.row v5) _ kr kr kr kr kr kr rfl (idx_isF ev5) rfl (fun cx => ?_)
    refine aU [(14,[]),(15,[]),(16,[])] 12 [] [16,15,14,13,12,11,10,9,8,7,6,5,4,3,2,1,0] rfl kr (fun cx => ?_)
    refine aI 17 53 0 25 26 27 (some (9,true)) ⟨(.slot 25),[],0,false,5,(CV.frzEs (x0.map Fent.row))⟩ y1 (Fent.row v6) _ kr kr kr kr kr kr rfl (idx_isF ev6) rfl (fun cx => ?_)
    refine aU [(18,[]),(19,[]),(20,[]),(21,[])] 7 [] [21,20,19,18,17,16,15,14,13,12,11,10,9,8,7,6,5,4,3,2,1,0] rfl kr (fun cx => ?_)
    refine aI 22 53 0 30 31 32 (some (9,true)) ⟨(.slot 30),[],0,false,5,(CV.frzEs (x0.map Fent.row))⟩ y1 (Fent.row v7) _ kr kr kr kr kr kr rfl (idx_isF ev7) rfl (fun cx => ?_)
    refine aU [(23,[]),(24,[])] 4 [] [24,23,22,21,20,19,18,17,16,15,14,13,12,11,10,9,8,7,6,5,4,3,2,1,0] rfl kr (fun cx => ?_)
    refine b1 25 kr kr ?_
    refine lV [.rd,.rd,.rd] [] (spec_l8Ahead n v5 v6.Tag v7.Mac r8 er8) kr kr kr kr (.inl rfl) ?_
    refine lF kr kr kr ?_
    refine aU [(26,[]),(27,[]),(28,[])] 0 [] [28,27,26,25,24,23,22,21,20,19,18,17,16,15,14,13,12,11,10,9,8,7,6,5,4,3,2,1,0] rfl kr (fun cx => ?_)
    exact AT.done [38,3,0] [] _ kr kr rfl
   refine tO ⟨42,0,[sB 38 (!r8),sI 3 y1,sC 0 (cF 5 x0 Fent.row)],[]⟩ kr ?_
   cases h4 : (!r8)
   ·have H := bifF h4 H
    refine tf kr ?_
    refine tK ?_
    refine tE 3 9 0 kr kr ?_
    exact jn (mo2,(w6 (y1 + 1))) H (sM mo2 [3,0] [] kr)
   have H := bifT h4 H
   refine tt kr ?_
   refine tG 1 4 0 kr kr ?_
   refine te ?_
   obtain rfl := si H
   have H := Ho2
   dsimp only at H
   obtain rfl := si H
   exact fO [(false,[cB false])] kr rfl rfl
  have H := bifT h2 H
  refine Tr.draws mixed 29 kr ⟨42,0,[sB 38 true,sI 3 y1,sC 0 (cF 5 x0 Fent.row)],[]⟩ (fun cx => ?_) ?_
  ·refine aU [(0,[]),(1,[])] 27 [] [1,0] rfl kr (fun cx => ?_)
   refine aI 2 53 0 10 11 12 none ⟨(.slot 10),[],0,false,5,(CV.frzEs (x0.map Fent.row))⟩ y1 (Fent.row v3) _ kr kr kr kr kr kr rfl (idx_isF ev3) rfl (fun cx => ?_)
   refine aU [(3,[])] 25 [] [3,2,1,0] rfl kr (fun cx => ?_)
   refine b1 4 kr kr ?_
   refine lV [.rd] [] (spec_l8Ent n v3 r4 er4) kr kr kr kr (.inl rfl) ?_
   refine lF kr kr kr ?_
   refine aU [(5,[]),(6,[])] 22 [] [6,5,4,3,2,1,0] rfl kr (fun cx => ?_)
   refine aT ⟨42,0,[sB 16 (!r4),sB 15 (!r4),sB 14 r4,sV 13 (Fent.row v3),(12,.fad ((Fent.row v3))),sI 11 y1,sC 10 (cF 5 x0 Fent.row),sB 7 (decide (y1 < (x0.length : Int))),sI 3 y1,sC 0 (cF 5 x0 Fent.row)],[]⟩ kr ?_
   rw [h2]
   refine aU [(7,[]),(8,[]),(9,[]),(10,[]),(11,[]),(12,[]),(13,[]),(14,[]),(15,[]),(16,[]),(17,[]),(18,[]),(19,[]),(20,[]),(21,[]),(22,[]),(23,[]),(24,[]),(25,[]),(26,[]),(27,[]),(28,[])] 0 [] [28,27,26,25,24,23,22,21,20,19,18,17,16,15,14,13,12,11,10,9,8,7,6,5,4,3,2,1,0] rfl kr (fun cx => ?_)
   exact AT.done [38,3,0] [] _ kr kr rfl
  refine tt kr ?_
  refine tG 1 4 0 kr kr ?_
  refine te ?_
  obtain rfl := si H
  have H := Ho2
  dsimp only at H
  obtain rfl := si H
  exact fO [(false,[cB false])] kr rfl rfl
 rintro _ H
 have H : (spec_FdbOk_J1 n x0) = some r := H
 unfold spec_FdbOk_J1 at H
 refine rU 1 kr ?_
 refine lL 53 3 184 39 40 none ⟨(.slot 39),[],0,false,5,(CV.frzEs (x0.map Fent.row))⟩ (x0).length _ kr kr kr kr kr (frz_len _ _) rfl ?_
 refine uD 2 4 0 kr kr ?_
 exact te (by obtain rfl := si H; exact fO [(false,[cB (decide ((x0.length : Int) ≤ 12))])] kr rfl rfl)
def spec_RowAt_J1 (n : Nat) : Option (Int) :=
  (some (-1))
def spec_RowAt_L2 (n : Nat) : Nat → Vtab → Int → Int → Option ((Unit) ⊕ (Int))
  | 0,_,_,_ => none
  | mo2 + 1,x0,x1,y1 => (bif (decide (y1 < (x0.Rows.length : Int))) then ((idx x0.Rows y1).bind fun v3 => (bif (v3.Id == x1) then (some (Sum.inr y1)) else (spec_RowAt_L2 n mo2 x0 x1 (IntKind.wrap .i64 (y1 + 1))))) else (some (Sum.inl ())))
def spec_RowAtF (n : Nat) (x0 : Vtab) (x1 : Int) : Option (Int) :=
  ((spec_RowAt_L2 n n x0 x1 0).bind fun o => match o with | .inl _ => (spec_RowAt_J1 n) | .inr r => some r)
noncomputable abbrev G195 (k : Nat) := Rg Tryz.f195 k
theorem spec_RowAt (n : Nat) (x0 : Vtab) (x1 : Int) (r : Int) (H : spec_RowAtF n x0 x1 = some r) : LCall Tryz.prog 195 [.val true (CV.frzRow (Vtab.row x0)),.val false [.lit (.int .i64 x1)]] [.val false [.lit (.int .i64 r)]] [] := by
 refine LCall.of_body tOk Tryz.func195 rfl (c := (.seq (G195 0) (.seq (.seq (G195 1) (.block 0 (.loop (.seq (.seq (G195 2) (.cond (.tmp 10) .skip (.exit 0))) (.seq (.block 1 (.seq (G195 4) (.cond (.tmp 20) (.seq (G195 5) .ret) .skip))) (G195 3)))))) (.seq (G195 6) .ret)))) kr (Nat.le_of_ble_eq_true kr) 0 (rs := [.tmp 4]) rfl [] .nil [(false,[.lit (.int .i64 r)])] [] [] fun cx => ?_
 show Tr _ _ _ ⟨22,0,[sV 0 (CV.frzRow (Vtab.row x0)),sI 1 x1],[]⟩ _
 unfold spec_RowAtF at H
 refine tG 2 6 4 kr kr ?_
 refine tS ?_
 refine tG 1 38 4 kr kr ?_
 obtain ⟨o2,eo2,Ho2⟩ := bind_some H
 clear H
 refine Tr.mid (ι := Unit) (fun v => ⟨22,0,[],[]⟩) (fun v => spec_RowAt_J1 n = some r) ?_ ?_
 ·refine tB ?_
  refine Tr.loop (ι := Nat × (Int)) (fun v => ⟨22,0,[sI 5 v.2,sA 2 2 2 0,sI 1 x1],[(2,(CV.frzRow (Vtab.row x0)))]⟩) (fun v => spec_RowAt_L2 n v.1 x0 x1 v.2 = some o2) (fun v => v.1) (n,0) eo2 (St.sub_of [5,2,1] [2] kr) ?_
  rintro ⟨mo2,y1⟩ H
  have H : spec_RowAt_L2 n mo2 x0 x1 y1 = some o2 := H
  obtain _ | mo2 := mo2
  ·cases (show (none : Option _) = some o2 from H)
  rw [spec_RowAt_L2] at H
  refine tS ?_
  refine rU 3 kr ?_
  refine lL 54 3 190 8 9 none ⟨(.slot 8),[],0,false,3,(CV.frzEs (x0.Rows.map Vrow.row))⟩ (x0.Rows).length _ kr kr kr kr kr (frz_len _ _) rfl ?_
  refine uD 1 1062 4 kr kr ?_
  obtain ⟨h1,H⟩ | ⟨h1,H⟩ := bC H
  ·refine tF h1 kr ?_
   refine Tr.exit ?_
   refine And.intro (fun _ => ?_) (fun h => absurd rfl h)
   obtain rfl := si H
   have H := Ho2
   dsimp only at H
   exact jn () H (sB_ [] [] kr)
  refine tT h1 kr ?_
  refine tK ?_
  refine tS ?_
  refine tB ?_
  refine rU 3 kr ?_
  obtain ⟨v3,ev3,H⟩ := bind_some H
  refine lI 54 0 14 15 16 none ⟨(.slot 14),[],0,false,3,(CV.frzEs (x0.Rows.map Vrow.row))⟩ y1 (Vrow.row v3) _ kr kr kr kr rfl (idx_isF ev3) rfl ?_
  refine uD 4 1048614 4 kr kr ?_
  obtain ⟨h2,H⟩ | ⟨h2,H⟩ := bC H
  ·refine tF h2 kr ?_
   refine tK ?_
   refine tE 3 38 4 kr kr ?_
   exact jn (mo2,(w6 (y1 + 1))) H (sM mo2 [5,2,1] [2] kr)
  refine tT h2 kr ?_
  refine tG 2 16 0 kr kr ?_
  refine te ?_
  obtain rfl := si H
  have H := Ho2
  dsimp only at H
  obtain rfl := si H
  exact fO [(false,[cI y1])] kr rfl rfl
 rintro _ H
 have H : (spec_RowAt_J1 n) = some r := H
 unfold spec_RowAt_J1 at H
 refine tG 1 16 0 kr kr ?_
 exact te (by obtain rfl := si H; exact fO [(false,[cI (-1)])] kr rfl rfl)
def spec_VtabOk_J2 (n : Nat) : Option (Bool) :=
  (some true)
def spec_VtabOk_L3 (n : Nat) : Nat → Vtab → Int → Option ((Unit) ⊕ (Bool))
  | 0,_,_ => none
  | mo5 + 1,x0,y4 => (bif (decide (y4 < (x0.Pvid.length : Int))) then ((idx x0.Pvid y4).bind fun v6 => ((spec_RowAtF n x0 v6).bind fun r7 => (bif (decide (r7 < 0)) then (some (Sum.inr false)) else (spec_VtabOk_L3 n mo5 x0 (IntKind.wrap .i64 (y4 + 1)))))) else (some (Sum.inl ())))
def spec_VtabOk_J1 (n : Nat) (x0 : Vtab) : Option (Bool) :=
  ((spec_VtabOk_L3 n n x0 0).bind fun o => match o with | .inl _ => (spec_VtabOk_J2 n) | .inr r => some r)
def spec_VtabOk_L4 (n : Nat) : Nat → Vtab → Int → Int → Option ((Unit) ⊕ (Bool))
  | 0,_,_,_ => none
  | mo8 + 1,x0,x1,y3 => (bif (decide (y3 < (x0.Rows.length : Int))) then ((idx x0.Rows y3).bind fun v9 => ((spec_l1InF n v9.Id 1 99).bind fun r10 => (bif (!r10) then (some (Sum.inr false)) else ((spec_l1InF n v9.Members 0 (IntKind.wrap .i64 ((IntKind.wrap .i64 (1 * 2 ^ min (((IntKind.wrap .u64 x1) : Int)).toNat (IntKind.bits .i64))) - 1))).bind fun r11 => (bif (!r11) then (some (Sum.inr false)) else ((spec_l1InF n v9.Bare 0 (IntKind.wrap .i64 ((IntKind.wrap .i64 (1 * 2 ^ min (((IntKind.wrap .u64 x1) : Int)).toNat (IntKind.bits .i64))) - 1))).bind fun r12 => (bif (!r12) then (some (Sum.inr false)) else (bif ((IntKind.wrap .i64 (BitVec.ofInt (IntKind.bits .i64) v9.Bare &&& BitVec.ofInt (IntKind.bits .i64) v9.Members).toNat) != v9.Bare) then (some (Sum.inr false)) else (bif (decide (y3 > 0)) then ((idx x0.Rows (IntKind.wrap .i64 (y3 - 1))).bind fun v13 => (bif (decide (v13.Id ≥ v9.Id)) then (some (Sum.inr false)) else (spec_VtabOk_L4 n mo8 x0 x1 (IntKind.wrap .i64 (y3 + 1))))) else (spec_VtabOk_L4 n mo8 x0 x1 (IntKind.wrap .i64 (y3 + 1)))))))))))) else (some (Sum.inl ())))
def spec_VtabOkF (n : Nat) (x0 : Vtab) (x1 : Int) : Option (Bool) :=
  ((spec_l1InF n x1 1 6).bind fun r1 => (bif (!r1) then (some false) else (bif ((x0.Pvid.length : Int) != x1) then (some false) else (bif (decide ((x0.Rows.length : Int) > 6)) then (some false) else (bif (decide ((0 : Int) ≤ (IntKind.wrap .u64 x1))) then ((spec_VtabOk_L4 n n x0 x1 0).bind fun o => match o with | .inl _ => (spec_VtabOk_J1 n x0) | .inr r => some r) else none)))))
noncomputable abbrev G240 (k : Nat) := Rg Tryz.f240 k
theorem spec_VtabOk (n : Nat) (x0 : Vtab) (x1 : Int) (r : Bool) (H : spec_VtabOkF n x0 x1 = some r) : LCall Tryz.prog 240 [.val true (CV.frzRow (Vtab.row x0)),.val false [.lit (.int .i64 x1)]] [.val false [.lit (.bool r)]] [] := by
 refine LCall.of_body tOk Tryz.func240 rfl (c := (.seq (G240 0) (.seq (.seq (G240 1) (.cond (.tmp 24) (.seq (G240 2) .ret) .skip)) (.seq (G240 3) (.seq (.seq (G240 4) (.block 0 (.loop (.seq (.seq (G240 5) (.cond (.tmp 33) .skip (.exit 0))) (.seq (.block 1 (.seq (G240 7) (.seq (Rd Tryz.f240 8) (.cond (.tmp 84) (.seq (G240 9) .ret) .skip)))) (G240 6)))))) (.seq (.seq (G240 10) (.block 2 (.loop (.seq (.seq (G240 11) (.cond (.tmp 89) .skip (.exit 2))) (.seq (.block 3 (.seq (Rd Tryz.f240 13) (.cond (.tmp 99) (.seq (G240 14) .ret) .skip))) (G240 12)))))) (.seq (G240 15) .ret))))))) kr (Nat.le_of_ble_eq_true kr) 0 (rs := [.tmp 4]) rfl [] .nil [(false,[.lit (.bool r)])] [] [] fun cx => ?_
 show Tr _ _ _ ⟨100,0,[sV 0 (CV.frzRow (Vtab.row x0)),sI 1 x1],[]⟩ _
 unfold spec_VtabOkF at H
 refine tG 2 6 4 kr kr ?_
 refine tS ?_
 refine rU 1 kr ?_
 obtain ⟨r1,er1,H⟩ := bind_some H
 refine lV [.rd,.rd,.rd] [] (spec_l1In n x1 1 6 r1 er1) kr kr kr kr (.inl rfl) ?_
 refine lU 2 kr ?_
 refine lT ⟨100,0,[sB 12 (!r1),sB 11 (!r1),sB 10 r1,sI 9 x1,sA 2 2 2 0,sI 1 x1],[(2,(CV.frzRow (Vtab.row x0)))]⟩ kr ?_
 cases h1 : (!r1)
 ·have H := bifF h1 H
  refine lU 2 kr ?_
  refine lL 22 3 3 14 15 (some (3,false)) ⟨(.slot 14),[],0,false,1,(CV.frzEs (x0.Pvid.map intRow))⟩ (x0.Pvid).length _ kr kr kr kr kr (frz_len _ _) rfl ?_
  refine lU 4 kr ?_
  refine lT ⟨100,0,[sB 19 ((x0.Pvid.length : Int) != x1),sB 18 ((x0.Pvid.length : Int) != x1),sB 17 ((x0.Pvid.length : Int) != x1),sI 16 x1,sI 15 (x0.Pvid.length : Int),sC 14 (cF 1 x0.Pvid intRow),sA 13 2 2 1,sB 12 false,sB 11 false,sB 10 r1,sI 9 x1,sA 2 2 2 0,sI 1 x1],[(2,(CV.frzRow (Vtab.row x0)))]⟩ kr ?_
  cases h2 : ((x0.Pvid.length : Int) != x1)
  ·have H := bifF h2 H
   refine lU 2 kr ?_
   refine lL 54 3 190 21 22 (some (10,false)) ⟨(.slot 21),[],0,false,3,(CV.frzEs (x0.Rows.map Vrow.row))⟩ (x0.Rows).length _ kr kr kr kr kr (frz_len _ _) rfl ?_
   refine uD 2 16777222 4 kr kr ?_
   obtain ⟨h3,H⟩ | ⟨h3,H⟩ := bC H
   ·refine tF h3 kr ?_
    refine tK ?_
    refine rU 2 kr ?_
    obtain ⟨hg2,H⟩ := guard_some H
    refine LAt.binC tOk (op := .shl) (t := 3) (ty := 145) (ty' := 3) (x := (.const (.int .i64 1))) (y := (.tmp 26)) (d := 27) (g := none) (.int .i64 1) (.int .u64 (IntKind.wrap .u64 x1)) (.int .i64 (w6 (1 * 2 ^ min (((IntKind.wrap .u64 x1) : Int)).toNat (IntKind.bits .i64)))) _ kr kr kr kr kr (φ := (0 : Int) ≤ (IntKind.wrap .u64 x1)) kr (of_decide_eq_true hg2) rfl ?_
    refine uD 2 36 4 kr kr ?_
    refine tS ?_
    refine tG 1 100 4 kr kr ?_
    obtain ⟨o8,eo8,Ho8⟩ := bind_some H
    clear H
    refine Tr.mid (ι := Unit) (fun v => ⟨100,0,[sA 2 2 2 0],[(2,(CV.frzRow (Vtab.row x0)))]⟩) (fun v => spec_VtabOk_J1 n x0 = some r) ?_ ?_
    ·refine tB ?_
     refine Tr.loop (ι := Nat × (Int)) (fun v => ⟨100,0,[sI 6 v.2,sI 5 (w6 ((w6 (1 * 2 ^ min (((IntKind.wrap .u64 x1) : Int)).toNat (IntKind.bits .i64))) - 1)),sA 2 2 2 0],[(2,(CV.frzRow (Vtab.row x0)))]⟩) (fun v => spec_VtabOk_L4 n v.1 x0 x1 v.2 = some o8) (fun v => v.1) (n,0) eo8 (St.sub_of [6,5,2] [2] kr) ?_
     rintro ⟨mo8,y3⟩ H
     have H : spec_VtabOk_L4 n mo8 x0 x1 y3 = some o8 := H
     obtain _ | mo8 := mo8
     ·cases (show (none : Option _) = some o8 from H)
     rw [spec_VtabOk_L4] at H
     refine tS ?_
     refine rU 3 kr ?_
     refine lL 54 3 190 31 32 none ⟨(.slot 31),[],0,false,3,(CV.frzEs (x0.Rows.map Vrow.row))⟩ (x0.Rows).length _ kr kr kr kr kr (frz_len _ _) rfl ?_
     refine uD 1 8589934692 4 kr kr ?_
     obtain ⟨h6,H⟩ | ⟨h6,H⟩ := bC H
     ·refine tF h6 kr ?_
      refine Tr.exit ?_
      refine And.intro (fun _ => ?_) (fun h => absurd rfl h)
      obtain rfl := si H
      have H := Ho8
      dsimp only at H
      exact jn () H (sB_ [2] [2] kr)
     refine tT h6 kr ?_
     refine tK ?_
     refine tS ?_
     refine tB ?_
     refine rU 3 kr ?_
     obtain ⟨v9,ev9,H⟩ := bind_some H
     refine lI 54 0 37 38 39 none ⟨(.slot 37),[],0,false,3,(CV.frzEs (x0.Rows.map Vrow.row))⟩ y3 (Vrow.row v9) _ kr kr kr kr rfl (idx_isF ev9) rfl ?_
     refine uD 3 228 132 kr kr ?_
     obtain ⟨r10,er10,H⟩ := bind_some H
     refine tO ⟨100,0,[sA 7 7 3 0,sI 6 y3,sI 5 (w6 ((w6 (1 * 2 ^ min (((IntKind.wrap .u64 x1) : Int)).toNat (IntKind.bits .i64))) - 1)),sA 2 2 2 0],[(7,(Vrow.row v9)),(2,(CV.frzRow (Vtab.row x0)))]⟩ kr ?_
     cases h7 : (!r10)
     ·have H := bifF h7 H
      obtain ⟨r11,er11,H⟩ := bind_some H
      refine tO ⟨100,0,[sA 7 7 3 0,sI 6 y3,sI 5 (w6 ((w6 (1 * 2 ^ min (((IntKind.wrap .u64 x1) : Int)).toNat (IntKind.bits .i64))) - 1)),sA 2 2 2 0],[(7,(Vrow.row v9)),(2,(CV.frzRow (Vtab.row x0)))]⟩ kr ?_
      cases h8 : (!r11)
      ·have H := bifF h8 H
       obtain ⟨r12,er12,H⟩ := bind_some H
       refine tO ⟨100,0,[sA 7 7 3 0,sI 6 y3,sI 5 (w6 ((w6 (1 * 2 ^ min (((IntKind.wrap .u64 x1) : Int)).toNat (IntKind.bits .i64))) - 1)),sA 2 2 2 0],[(7,(Vrow.row v9)),(2,(CV.frzRow (Vtab.row x0)))]⟩ kr ?_
       cases h9 : (!r12)
       ·have H := bifF h9 H
        refine tO ⟨100,0,[sA 7 7 3 0,sI 6 y3,sI 5 (w6 ((w6 (1 * 2 ^ min (((IntKind.wrap .u64 x1) : Int)).toNat (IntKind.bits .i64))) - 1)),sA 2 2 2 0],[(7,(Vrow.row v9)),(2,(CV.frzRow (Vtab.row x0)))]⟩ kr ?_
        cases h10 : ((IntKind.wrap .i64 (BitVec.ofInt (IntKind.bits .i64) v9.Bare &&& BitVec.ofInt (IntKind.bits .i64) v9.Members).toNat) != v9.Bare)
        ·have H := bifF h10 H
         refine tO ⟨100,0,[sA 7 7 3 0,sI 6 y3,sI 5 (w6 ((w6 (1 * 2 ^ min (((IntKind.wrap .u64 x1) : Int)).toNat (IntKind.bits .i64))) - 1)),sA 2 2 2 0],[(7,(Vrow.row v9)),(2,(CV.frzRow (Vtab.row x0)))]⟩ kr ?_
         cases h11 : (decide (y3 > 0))
         ·have H := bifF h11 H
          refine Tr.draws mixed 44 kr ⟨100,0,[sB 84 false,sI 6 y3,sI 5 (w6 ((w6 (1 * 2 ^ min (((IntKind.wrap .u64 x1) : Int)).toNat (IntKind.bits .i64))) - 1)),sA 2 2 2 0],[(2,(CV.frzRow (Vtab.row x0)))]⟩ (fun cx => ?_) ?_
          ·refine aU [(0,[]),(1,[2,8,15])] 42 [⟨[2,8,15],3,41,42⟩] [1,0] rfl kr (fun cx => ?_)
           refine b1 2 kr kr ?_
           refine lV [.rd,.rd,.rd] [] (spec_l1In n v9.Id 1 99 r10 er10) kr kr kr kr (.inl rfl) ?_
           refine lF kr kr kr ?_
           refine aU [(3,[]),(4,[])] 39 [⟨[2,8,15],3,41,42⟩] [4,3,2,1,0] rfl kr (fun cx => ?_)
           refine aT ⟨100,0,[sB 45 (!r10),sB 44 (!r10),sB 43 r10,sI 42 v9.Id,sA 41 7 3 0,sA 7 7 3 0,sI 6 y3,sI 5 (w6 ((w6 (1 * 2 ^ min (((IntKind.wrap .u64 x1) : Int)).toNat (IntKind.bits .i64))) - 1)),sA 2 2 2 0],[(7,(Vrow.row v9)),(2,(CV.frzRow (Vtab.row x0)))]⟩ kr ?_
           rw [h7]
           refine aU [(5,[]),(6,[8,15]),(7,[])] 36 [⟨[8,15],3,46,47⟩,⟨[2,8,15],3,41,42⟩] [7,6,5,4,3,2,1,0] rfl kr (fun cx => ?_)
           refine b1 8 kr kr ?_
           refine lV [.rd,.rd,.rd] [] (spec_l1In n v9.Members 0 (w6 ((w6 (1 * 2 ^ min (((IntKind.wrap .u64 x1) : Int)).toNat (IntKind.bits .i64))) - 1)) r11 er11) kr kr kr kr (.inl rfl) ?_
           refine lF kr kr kr ?_
           refine aU [(9,[]),(10,[]),(11,[])] 32 [⟨[8,15],3,46,47⟩,⟨[2,8,15],3,41,42⟩] [11,10,9,8,7,6,5,4,3,2,1,0] rfl kr (fun cx => ?_)
           refine aT ⟨100,0,[sB 52 (!r11),sB 51 (!r11),sB 50 (!r11),sB 49 r11,sI 48 (w6 ((w6 (1 * 2 ^ min (((IntKind.wrap .u64 x1) : Int)).toNat (IntKind.bits .i64))) - 1)),sI 47 v9.Members,sA 46 7 3 1,sB 45 false,sB 44 false,sB 43 r10,sI 42 v9.Id,sA 41 7 3 0,sA 7 7 3 0,sI 6 y3,sI 5 (w6 ((w6 (1 * 2 ^ min (((IntKind.wrap .u64 x1) : Int)).toNat (IntKind.bits .i64))) - 1)),sA 2 2 2 0],[(7,(Vrow.row v9)),(2,(CV.frzRow (Vtab.row x0)))]⟩ kr ?_
           rw [h8]
           refine aU [(12,[]),(13,[15]),(14,[])] 29 [⟨[15],3,53,54⟩,⟨[8,15],3,46,47⟩,⟨[2,8,15],3,41,42⟩] [14,13,12,11,10,9,8,7,6,5,4,3,2,1,0] rfl kr (fun cx => ?_)
           refine b1 15 kr kr ?_
           refine lV [.rd,.rd,.rd] [] (spec_l1In n v9.Bare 0 (w6 ((w6 (1 * 2 ^ min (((IntKind.wrap .u64 x1) : Int)).toNat (IntKind.bits .i64))) - 1)) r12 er12) kr kr kr kr (.inl rfl) ?_
           refine lF kr kr kr ?_
           refine aU [(16,[]),(17,[]),(18,[])] 25 [⟨[15],3,53,54⟩,⟨[8,15],3,46,47⟩,⟨[2,8,15],3,41,42⟩] [18,17,16,15,14,13,12,11,10,9,8,7,6,5,4,3,2,1,0] rfl kr (fun cx => ?_)
           refine aT ⟨100,0,[sB 59 (!r12),sB 58 (!r12),sB 57 (!r12),sB 56 r12,sI 55 (w6 ((w6 (1 * 2 ^ min (((IntKind.wrap .u64 x1) : Int)).toNat (IntKind.bits .i64))) - 1)),sI 54 v9.Bare,sA 53 7 3 2,sB 52 false,sB 51 false,sB 50 false,sB 49 r11,sI 48 (w6 ((w6 (1 * 2 ^ min (((IntKind.wrap .u64 x1) : Int)).toNat (IntKind.bits .i64))) - 1)),sI 47 v9.Members,sA 46 7 3 1,sB 45 false,sB 44 false,sB 43 r10,sI 42 v9.Id,sA 41 7 3 0,sA 7 7 3 0,sI 6 y3,sI 5 (w6 ((w6 (1 * 2 ^ min (((IntKind.wrap .u64 x1) : Int)).toNat (IntKind.bits .i64))) - 1)),sA 2 2 2 0],[(7,(Vrow.row v9)),(2,(CV.frzRow (Vtab.row x0)))]⟩ kr ?_
           rw [h9]
           refine aU [(19,[]),(20,[]),(21,[]),(22,[]),(23,[]),(24,[]),(25,[]),(26,[]),(27,[]),(28,[])] 15 [⟨[],3,65,66⟩,⟨[],3,62,63⟩,⟨[],3,60,61⟩,⟨[15],3,53,54⟩,⟨[8,15],3,46,47⟩,⟨[2,8,15],3,41,42⟩] [28,27,26,25,24,23,22,21,20,19,18,17,16,15,14,13,12,11,10,9,8,7,6,5,4,3,2,1,0] rfl kr (fun cx => ?_)
           refine aT ⟨100,0,[sB 69 ((w6 (BitVec.ofInt (IntKind.bits .i64) v9.Bare &&& BitVec.ofInt (IntKind.bits .i64) v9.Members).toNat) != v9.Bare),sB 68 ((w6 (BitVec.ofInt (IntKind.bits .i64) v9.Bare &&& BitVec.ofInt (IntKind.bits .i64) v9.Members).toNat) != v9.Bare),sB 67 ((w6 (BitVec.ofInt (IntKind.bits .i64) v9.Bare &&& BitVec.ofInt (IntKind.bits .i64) v9.Members).toNat) != v9.Bare),sI 66 v9.Bare,sA 65 7 3 2,sI 64 (w6 (BitVec.ofInt (IntKind.bits .i64) v9.Bare &&& BitVec.ofInt (IntKind.bits .i64) v9.Members).toNat),sI 63 v9.Members,sA 62 7 3 1,sI 61 v9.Bare,sA 60 7 3 2,sB 59 false,sB 58 false,sB 57 false,sB 56 r12,sI 55 (w6 ((w6 (1 * 2 ^ min (((IntKind.wrap .u64 x1) : Int)).toNat (IntKind.bits .i64))) - 1)),sI 54 v9.Bare,sA 53 7 3 2,sB 52 false,sB 51 false,sB 50 false,sB 49 r11,sI 48 (w6 ((w6 (1 * 2 ^ min (((IntKind.wrap .u64 x1) : Int)).toNat (IntKind.bits .i64))) - 1)),sI 47 v9.Members,sA 46 7 3 1,sB 45 false,sB 44 false,sB 43 r10,sI 42 v9.Id,sA 41 7 3 0,sA 7 7 3 0,sI 6 y3,sI 5 (w6 ((w6 (1 * 2 ^ min (((IntKind.wrap .u64 x1) : Int)).toNat (IntKind.bits .i64))) - 1)),sA 2 2 2 0],[(7,(Vrow.row v9)),(2,(CV.frzRow (Vtab.row x0)))]⟩ kr ?_
           rw [h10]
           refine aU [(29,[]),(30,[]),(31,[])] 12 [⟨[],3,65,66⟩,⟨[],3,62,63⟩,⟨[],3,60,61⟩,⟨[15],3,53,54⟩,⟨[8,15],3,46,47⟩,⟨[2,8,15],3,41,42⟩] [31,30,29,28,27,26,25,24,23,22,21,20,19,18,17,16,15,14,13,12,11,10,9,8,7,6,5,4,3,2,1,0] rfl kr (fun cx => ?_)
           refine aT ⟨100,0,[sB 72 (decide (y3 > 0)),sB 71 (decide (y3 > 0)),sI 70 y3,sB 69 false,sB 68 false,sB 67 false,sI 66 v9.Bare,sA 65 7 3 2,sI 64 (w6 (BitVec.ofInt (IntKind.bits .i64) v9.Bare &&& BitVec.ofInt (IntKind.bits .i64) v9.Members).toNat),sI 63 v9.Members,sA 62 7 3 1,sI 61 v9.Bare,sA 60 7 3 2,sB 59 false,sB 58 false,sB 57 false,sB 56 r12,sI 55 (w6 ((w6 (1 * 2 ^ min (((IntKind.wrap .u64 x1) : Int)).toNat (IntKind.bits .i64))) - 1)),sI 54 v9.Bare,sA 53 7 3 2,sB 52 false,sB 51 false,sB 50 false,sB 49 r11,sI 48 (w6 ((w6 (1 * 2 ^ min (((IntKind.wrap .u64 x1) : Int)).toNat (IntKind.bits .i64))) - 1)),sI 47 v9.Members,sA 46 7 3 1,sB 45 false,sB 44 false,sB 43 r10,sI 42 v9.Id,sA 41 7 3 0,sA 7 7 3 0,sI 6 y3,sI 5 (w6 ((w6 (1 * 2 ^ min (((IntKind.wrap .u64 x1) : Int)).toNat (IntKind.bits .i64))) - 1)),sA 2 2 2 0],[(7,(Vrow.row v9)),(2,(CV.frzRow (Vtab.row x0)))]⟩ kr ?_
           rw [h11]
           refine aU [(32,[]),(33,[]),(34,[]),(35,[]),(36,[]),(37,[]),(38,[]),(39,[]),(40,[]),(41,[]),(42,[]),(43,[])] 0 [⟨[],3,65,66⟩,⟨[],3,62,63⟩,⟨[],3,60,61⟩,⟨[15],3,53,54⟩,⟨[8,15],3,46,47⟩,⟨[2,8,15],3,41,42⟩] [43,42,41,40,39,38,37,36,35,34,33,32,31,30,29,28,27,26,25,24,23,22,21,20,19,18,17,16,15,14,13,12,11,10,9,8,7,6,5,4,3,2,1,0] rfl kr (fun cx => ?_)
           exact AT.done [84,6,5,2] [2] _ kr kr rfl
          refine tf kr ?_
          refine tK ?_
          refine tE 3 100 4 kr kr ?_
          exact jn (mo8,(w6 (y3 + 1))) H (sM mo8 [6,5,2] [2] kr)
         have H := bifT h11 H
         obtain ⟨v13,ev13,H⟩ := bind_some H
         refine Tr.draws mixed 44 kr ⟨100,0,[sB 84 (decide (v13.Id ≥ v9.Id)),sI 6 y3,sI 5 (w6 ((w6 (1 * 2 ^ min (((IntKind.wrap .u64 x1) : Int)).toNat (IntKind.bits .i64))) - 1)),sA 2 2 2 0],[(2,(CV.frzRow (Vtab.row x0)))]⟩ (fun cx => ?_) ?_
         ·refine aU [(0,[]),(1,[2,8,15])] 42 [⟨[2,8,15],3,41,42⟩] [1,0] rfl kr (fun cx => ?_)
          refine b1 2 kr kr ?_
          refine lV [.rd,.rd,.rd] [] (spec_l1In n v9.Id 1 99 r10 er10) kr kr kr kr (.inl rfl) ?_
          refine lF kr kr kr ?_
          refine aU [(3,[]),(4,[])] 39 [⟨[2,8,15],3,41,42⟩] [4,3,2,1,0] rfl kr (fun cx => ?_)
          refine aT ⟨100,0,[sB 45 (!r10),sB 44 (!r10),sB 43 r10,sI 42 v9.Id,sA 41 7 3 0,sA 7 7 3 0,sI 6 y3,sI 5 (w6 ((w6 (1 * 2 ^ min (((IntKind.wrap .u64 x1) : Int)).toNat (IntKind.bits .i64))) - 1)),sA 2 2 2 0],[(7,(Vrow.row v9)),(2,(CV.frzRow (Vtab.row x0)))]⟩ kr ?_
          rw [h7]
          refine aU [(5,[]),(6,[8,15]),(7,[])] 36 [⟨[8,15],3,46,47⟩,⟨[2,8,15],3,41,42⟩] [7,6,5,4,3,2,1,0] rfl kr (fun cx => ?_)
          refine b1 8 kr kr ?_
          refine lV [.rd,.rd,.rd] [] (spec_l1In n v9.Members 0 (w6 ((w6 (1 * 2 ^ min (((IntKind.wrap .u64 x1) : Int)).toNat (IntKind.bits .i64))) - 1)) r11 er11) kr kr kr kr (.inl rfl) ?_
          refine lF kr kr kr ?_
          refine aU [(9,[]),(10,[]),(11,[])] 32 [⟨[8,15],3,46,47⟩,⟨[2,8,15],3,41,42⟩] [11,10,9,8,7,6,5,4,3,2,1,0] rfl kr (fun cx => ?_)
          refine aT ⟨100,0,[sB 52 (!r11),sB 51 (!r11),sB 50 (!r11),sB 49 r11,sI 48 (w6 ((w6 (1 * 2 ^ min (((IntKind.wrap .u64 x1) : Int)).toNat (IntKind.bits .i64))) - 1)),sI 47 v9.Members,sA 46 7 3 1,sB 45 false,sB 44 false,sB 43 r10,sI 42 v9.Id,sA 41 7 3 0,sA 7 7 3 0,sI 6 y3,sI 5 (w6 ((w6 (1 * 2 ^ min (((IntKind.wrap .u64 x1) : Int)).toNat (IntKind.bits .i64))) - 1)),sA 2 2 2 0],[(7,(Vrow.row v9)),(2,(CV.frzRow (Vtab.row x0)))]⟩ kr ?_
          rw [h8]
          refine aU [(12,[]),(13,[15]),(14,[])] 29 [⟨[15],3,53,54⟩,⟨[8,15],3,46,47⟩,⟨[2,8,15],3,41,42⟩] [14,13,12,11,10,9,8,7,6,5,4,3,2,1,0] rfl kr (fun cx => ?_)
          refine b1 15 kr kr ?_
          refine lV [.rd,.rd,.rd] [] (spec_l1In n v9.Bare 0 (w6 ((w6 (1 * 2 ^ min (((IntKind.wrap .u64 x1) : Int)).toNat (IntKind.bits .i64))) - 1)) r12 er12) kr kr kr kr (.inl rfl) ?_
          refine lF kr kr kr ?_
          refine aU [(16,[]),(17,[]),(18,[])] 25 [⟨[15],3,53,54⟩,⟨[8,15],3,46,47⟩,⟨[2,8,15],3,41,42⟩] [18,17,16,15,14,13,12,11,10,9,8,7,6,5,4,3,2,1,0] rfl kr (fun cx => ?_)
          refine aT ⟨100,0,[sB 59 (!r12),sB 58 (!r12),sB 57 (!r12),sB 56 r12,sI 55 (w6 ((w6 (1 * 2 ^ min (((IntKind.wrap .u64 x1) : Int)).toNat (IntKind.bits .i64))) - 1)),sI 54 v9.Bare,sA 53 7 3 2,sB 52 false,sB 51 false,sB 50 false,sB 49 r11,sI 48 (w6 ((w6 (1 * 2 ^ min (((IntKind.wrap .u64 x1) : Int)).toNat (IntKind.bits .i64))) - 1)),sI 47 v9.Members,sA 46 7 3 1,sB 45 false,sB 44 false,sB 43 r10,sI 42 v9.Id,sA 41 7 3 0,sA 7 7 3 0,sI 6 y3,sI 5 (w6 ((w6 (1 * 2 ^ min (((IntKind.wrap .u64 x1) : Int)).toNat (IntKind.bits .i64))) - 1)),sA 2 2 2 0],[(7,(Vrow.row v9)),(2,(CV.frzRow (Vtab.row x0)))]⟩ kr ?_
          rw [h9]
          refine aU [(19,[]),(20,[]),(21,[]),(22,[]),(23,[]),(24,[]),(25,[]),(26,[]),(27,[]),(28,[])] 15 [⟨[],3,65,66⟩,⟨[],3,62,63⟩,⟨[],3,60,61⟩,⟨[15],3,53,54⟩,⟨[8,15],3,46,47⟩,⟨[2,8,15],3,41,42⟩] [28,27,26,25,24,23,22,21,20,19,18,17,16,15,14,13,12,11,10,9,8,7,6,5,4,3,2,1,0] rfl kr (fun cx => ?_)
          refine aT ⟨100,0,[sB 69 ((w6 (BitVec.ofInt (IntKind.bits .i64) v9.Bare &&& BitVec.ofInt (IntKind.bits .i64) v9.Members).toNat) != v9.Bare),sB 68 ((w6 (BitVec.ofInt (IntKind.bits .i64) v9.Bare &&& BitVec.ofInt (IntKind.bits .i64) v9.Members).toNat) != v9.Bare),sB 67 ((w6 (BitVec.ofInt (IntKind.bits .i64) v9.Bare &&& BitVec.ofInt (IntKind.bits .i64) v9.Members).toNat) != v9.Bare),sI 66 v9.Bare,sA 65 7 3 2,sI 64 (w6 (BitVec.ofInt (IntKind.bits .i64) v9.Bare &&& BitVec.ofInt (IntKind.bits .i64) v9.Members).toNat),sI 63 v9.Members,sA 62 7 3 1,sI 61 v9.Bare,sA 60 7 3 2,sB 59 false,sB 58 false,sB 57 false,sB 56 r12,sI 55 (w6 ((w6 (1 * 2 ^ min (((IntKind.wrap .u64 x1) : Int)).toNat (IntKind.bits .i64))) - 1)),sI 54 v9.Bare,sA 53 7 3 2,sB 52 false,sB 51 false,sB 50 false,sB 49 r11,sI 48 (w6 ((w6 (1 * 2 ^ min (((IntKind.wrap .u64 x1) : Int)).toNat (IntKind.bits .i64))) - 1)),sI 47 v9.Members,sA 46 7 3 1,sB 45 false,sB 44 false,sB 43 r10,sI 42 v9.Id,sA 41 7 3 0,sA 7 7 3 0,sI 6 y3,sI 5 (w6 ((w6 (1 * 2 ^ min (((IntKind.wrap .u64 x1) : Int)).toNat (IntKind.bits .i64))) - 1)),sA 2 2 2 0],[(7,(Vrow.row v9)),(2,(CV.frzRow (Vtab.row x0)))]⟩ kr ?_
          rw [h10]
          refine aU [(29,[]),(30,[]),(31,[])] 12 [⟨[],3,65,66⟩,⟨[],3,62,63⟩,⟨[],3,60,61⟩,⟨[15],3,53,54⟩,⟨[8,15],3,46,47⟩,⟨[2,8,15],3,41,42⟩] [31,30,29,28,27,26,25,24,23,22,21,20,19,18,17,16,15,14,13,12,11,10,9,8,7,6,5,4,3,2,1,0] rfl kr (fun cx => ?_)
          refine aT ⟨100,0,[sB 72 (decide (y3 > 0)),sB 71 (decide (y3 > 0)),sI 70 y3,sB 69 false,sB 68 false,sB 67 false,sI 66 v9.Bare,sA 65 7 3 2,sI 64 (w6 (BitVec.ofInt (IntKind.bits .i64) v9.Bare &&& BitVec.ofInt (IntKind.bits .i64) v9.Members).toNat),sI 63 v9.Members,sA 62 7 3 1,sI 61 v9.Bare,sA 60 7 3 2,sB 59 false,sB 58 false,sB 57 false,sB 56 r12,sI 55 (w6 ((w6 (1 * 2 ^ min (((IntKind.wrap .u64 x1) : Int)).toNat (IntKind.bits .i64))) - 1)),sI 54 v9.Bare,sA 53 7 3 2,sB 52 false,sB 51 false,sB 50 false,sB 49 r11,sI 48 (w6 ((w6 (1 * 2 ^ min (((IntKind.wrap .u64 x1) : Int)).toNat (IntKind.bits .i64))) - 1)),sI 47 v9.Members,sA 46 7 3 1,sB 45 false,sB 44 false,sB 43 r10,sI 42 v9.Id,sA 41 7 3 0,sA 7 7 3 0,sI 6 y3,sI 5 (w6 ((w6 (1 * 2 ^ min (((IntKind.wrap .u64 x1) : Int)).toNat (IntKind.bits .i64))) - 1)),sA 2 2 2 0],[(7,(Vrow.row v9)),(2,(CV.frzRow (Vtab.row x0)))]⟩ kr ?_
          rw [h11]
          refine aU [(32,[]),(33,[]),(34,[]),(35,[])] 8 [⟨[],54,73,74⟩,⟨[],3,65,66⟩,⟨[],3,62,63⟩,⟨[],3,60,61⟩,⟨[15],3,53,54⟩,⟨[8,15],3,46,47⟩,⟨[2,8,15],3,41,42⟩] [35,34,33,32,31,30,29,28,27,26,25,24,23,22,21,20,19,18,17,16,15,14,13,12,11,10,9,8,7,6,5,4,3,2,1,0] rfl kr (fun cx => ?_)
          refine aI 36 54 0 74 76 77 (some (31,true)) ⟨(.box 2),[(0,0)],0,false,3,(CV.frzEs (x0.Rows.map Vrow.row))⟩ (w6 (y3 - 1)) (Vrow.row v13) _ kr kr kr kr kr kr rfl (idx_isF ev13) rfl (fun cx => ?_)
          refine aU [(37,[]),(38,[]),(39,[]),(40,[]),(41,[]),(42,[]),(43,[])] 0 [⟨[],3,80,81⟩,⟨[],54,73,74⟩,⟨[],3,65,66⟩,⟨[],3,62,63⟩,⟨[],3,60,61⟩,⟨[15],3,53,54⟩,⟨[8,15],3,46,47⟩,⟨[2,8,15],3,41,42⟩] [43,42,41,40,39,38,37,36,35,34,33,32,31,30,29,28,27,26,25,24,23,22,21,20,19,18,17,16,15,14,13,12,11,10,9,8,7,6,5,4,3,2,1,0] rfl kr (fun cx => ?_)
          exact AT.done [84,6,5,2] [2] _ kr kr rfl
         refine tO ⟨100,0,[sB 84 (decide (v13.Id ≥ v9.Id)),sI 6 y3,sI 5 (w6 ((w6 (1 * 2 ^ min (((IntKind.wrap .u64 x1) : Int)).toNat (IntKind.bits .i64))) - 1)),sA 2 2 2 0],[(2,(CV.frzRow (Vtab.row x0)))]⟩ kr ?_
         cases h12 : (decide (v13.Id ≥ v9.Id))
         ·have H := bifF h12 H
          refine tf kr ?_
          refine tK ?_
          refine tE 3 100 4 kr kr ?_
          exact jn (mo8,(w6 (y3 + 1))) H (sM mo8 [6,5,2] [2] kr)
         have H := bifT h12 H
         refine tt kr ?_
         refine tG 1 16 0 kr kr ?_
         refine te ?_
         obtain rfl := si H
         have H := Ho8
         dsimp only at H
         obtain rfl := si H
         exact fO [(false,[cB false])] kr rfl rfl
        have H := bifT h10 H
        refine Tr.draws mixed 44 kr ⟨100,0,[sB 84 true,sI 6 y3,sI 5 (w6 ((w6 (1 * 2 ^ min (((IntKind.wrap .u64 x1) : Int)).toNat (IntKind.bits .i64))) - 1)),sA 2 2 2 0],[(2,(CV.frzRow (Vtab.row x0)))]⟩ (fun cx => ?_) ?_
        ·refine aU [(0,[]),(1,[2,8,15])] 42 [⟨[2,8,15],3,41,42⟩] [1,0] rfl kr (fun cx => ?_)
         refine b1 2 kr kr ?_
         refine lV [.rd,.rd,.rd] [] (spec_l1In n v9.Id 1 99 r10 er10) kr kr kr kr (.inl rfl) ?_
         refine lF kr kr kr ?_
         refine aU [(3,[]),(4,[])] 39 [⟨[2,8,15],3,41,42⟩] [4,3,2,1,0] rfl kr (fun cx => ?_)
         refine aT ⟨100,0,[sB 45 (!r10),sB 44 (!r10),sB 43 r10,sI 42 v9.Id,sA 41 7 3 0,sA 7 7 3 0,sI 6 y3,sI 5 (w6 ((w6 (1 * 2 ^ min (((IntKind.wrap .u64 x1) : Int)).toNat (IntKind.bits .i64))) - 1)),sA 2 2 2 0],[(7,(Vrow.row v9)),(2,(CV.frzRow (Vtab.row x0)))]⟩ kr ?_
         rw [h7]
         refine aU [(5,[]),(6,[8,15]),(7,[])] 36 [⟨[8,15],3,46,47⟩,⟨[2,8,15],3,41,42⟩] [7,6,5,4,3,2,1,0] rfl kr (fun cx => ?_)
         refine b1 8 kr kr ?_
         refine lV [.rd,.rd,.rd] [] (spec_l1In n v9.Members 0 (w6 ((w6 (1 * 2 ^ min (((IntKind.wrap .u64 x1) : Int)).toNat (IntKind.bits .i64))) - 1)) r11 er11) kr kr kr kr (.inl rfl) ?_
         refine lF kr kr kr ?_
         refine aU [(9,[]),(10,[]),(11,[])] 32 [⟨[8,15],3,46,47⟩,⟨[2,8,15],3,41,42⟩] [11,10,9,8,7,6,5,4,3,2,1,0] rfl kr (fun cx => ?_)
         refine aT ⟨100,0,[sB 52 (!r11),sB 51 (!r11),sB 50 (!r11),sB 49 r11,sI 48 (w6 ((w6 (1 * 2 ^ min (((IntKind.wrap .u64 x1) : Int)).toNat (IntKind.bits .i64))) - 1)),sI 47 v9.Members,sA 46 7 3 1,sB 45 false,sB 44 false,sB 43 r10,sI 42 v9.Id,sA 41 7 3 0,sA 7 7 3 0,sI 6 y3,sI 5 (w6 ((w6 (1 * 2 ^ min (((IntKind.wrap .u64 x1) : Int)).toNat (IntKind.bits .i64))) - 1)),sA 2 2 2 0],[(7,(Vrow.row v9)),(2,(CV.frzRow (Vtab.row x0)))]⟩ kr ?_
         rw [h8]
         refine aU [(12,[]),(13,[15]),(14,[])] 29 [⟨[15],3,53,54⟩,⟨[8,15],3,46,47⟩,⟨[2,8,15],3,41,42⟩] [14,13,12,11,10,9,8,7,6,5,4,3,2,1,0] rfl kr (fun cx => ?_)
         refine b1 15 kr kr ?_
         refine lV [.rd,.rd,.rd] [] (spec_l1In n v9.Bare 0 (w6 ((w6 (1 * 2 ^ min (((IntKind.wrap .u64 x1) : Int)).toNat (IntKind.bits .i64))) - 1)) r12 er12) kr kr kr kr (.inl rfl) ?_
         refine lF kr kr kr ?_
         refine aU [(16,[]),(17,[]),(18,[])] 25 [⟨[15],3,53,54⟩,⟨[8,15],3,46,47⟩,⟨[2,8,15],3,41,42⟩] [18,17,16,15,14,13,12,11,10,9,8,7,6,5,4,3,2,1,0] rfl kr (fun cx => ?_)
         refine aT ⟨100,0,[sB 59 (!r12),sB 58 (!r12),sB 57 (!r12),sB 56 r12,sI 55 (w6 ((w6 (1 * 2 ^ min (((IntKind.wrap .u64 x1) : Int)).toNat (IntKind.bits .i64))) - 1)),sI 54 v9.Bare,sA 53 7 3 2,sB 52 false,sB 51 false,sB 50 false,sB 49 r11,sI 48 (w6 ((w6 (1 * 2 ^ min (((IntKind.wrap .u64 x1) : Int)).toNat (IntKind.bits .i64))) - 1)),sI 47 v9.Members,sA 46 7 3 1,sB 45 false,sB 44 false,sB 43 r10,sI 42 v9.Id,sA 41 7 3 0,sA 7 7 3 0,sI 6 y3,sI 5 (w6 ((w6 (1 * 2 ^ min (((IntKind.wrap .u64 x1) : Int)).toNat (IntKind.bits .i64))) - 1)),sA 2 2 2 0],[(7,(Vrow.row v9)),(2,(CV.frzRow (Vtab.row x0)))]⟩ kr ?_
         rw [h9]
         refine aU [(19,[]),(20,[]),(21,[]),(22,[]),(23,[]),(24,[]),(25,[]),(26,[]),(27,[]),(28,[])] 15 [⟨[],3,65,66⟩,⟨[],3,62,63⟩,⟨[],3,60,61⟩,⟨[15],3,53,54⟩,⟨[8,15],3,46,47⟩,⟨[2,8,15],3,41,42⟩] [28,27,26,25,24,23,22,21,20,19,18,17,16,15,14,13,12,11,10,9,8,7,6,5,4,3,2,1,0] rfl kr (fun cx => ?_)
         refine aT ⟨100,0,[sB 69 ((w6 (BitVec.ofInt (IntKind.bits .i64) v9.Bare &&& BitVec.ofInt (IntKind.bits .i64) v9.Members).toNat) != v9.Bare),sB 68 ((w6 (BitVec.ofInt (IntKind.bits .i64) v9.Bare &&& BitVec.ofInt (IntKind.bits .i64) v9.Members).toNat) != v9.Bare),sB 67 ((w6 (BitVec.ofInt (IntKind.bits .i64) v9.Bare &&& BitVec.ofInt (IntKind.bits .i64) v9.Members).toNat) != v9.Bare),sI 66 v9.Bare,sA 65 7 3 2,sI 64 (w6 (BitVec.ofInt (IntKind.bits .i64) v9.Bare &&& BitVec.ofInt (IntKind.bits .i64) v9.Members).toNat),sI 63 v9.Members,sA 62 7 3 1,sI 61 v9.Bare,sA 60 7 3 2,sB 59 false,sB 58 false,sB 57 false,sB 56 r12,sI 55 (w6 ((w6 (1 * 2 ^ min (((IntKind.wrap .u64 x1) : Int)).toNat (IntKind.bits .i64))) - 1)),sI 54 v9.Bare,sA 53 7 3 2,sB 52 false,sB 51 false,sB 50 false,sB 49 r11,sI 48 (w6 ((w6 (1 * 2 ^ min (((IntKind.wrap .u64 x1) : Int)).toNat (IntKind.bits .i64))) - 1)),sI 47 v9.Members,sA 46 7 3 1,sB 45 false,sB 44 false,sB 43 r10,sI 42 v9.Id,sA 41 7 3 0,sA 7 7 3 0,sI 6 y3,sI 5 (w6 ((w6 (1 * 2 ^ min (((IntKind.wrap .u64 x1) : Int)).toNat (IntKind.bits .i64))) - 1)),sA 2 2 2 0],[(7,(Vrow.row v9)),(2,(CV.frzRow (Vtab.row x0)))]⟩ kr ?_
         rw [h10]
         refine aU [(29,[]),(30,[]),(31,[]),(32,[]),(33,[]),(34,[]),(35,[]),(36,[]),(37,[]),(38,[]),(39,[]),(40,[]),(41,[]),(42,[]),(43,[])] 0 [⟨[],3,65,66⟩,⟨[],3,62,63⟩,⟨[],3,60,61⟩,⟨[15],3,53,54⟩,⟨[8,15],3,46,47⟩,⟨[2,8,15],3,41,42⟩] [43,42,41,40,39,38,37,36,35,34,33,32,31,30,29,28,27,26,25,24,23,22,21,20,19,18,17,16,15,14,13,12,11,10,9,8,7,6,5,4,3,2,1,0] rfl kr (fun cx => ?_)
         exact AT.done [84,6,5,2] [2] _ kr kr rfl
        refine tt kr ?_
        refine tG 1 16 0 kr kr ?_
        refine te ?_
        obtain rfl := si H
        have H := Ho8
        dsimp only at H
        obtain rfl := si H
        exact fO [(false,[cB false])] kr rfl rfl
       have H := bifT h9 H
       refine Tr.draws mixed 44 kr ⟨100,0,[sB 84 true,sI 6 y3,sI 5 (w6 ((w6 (1 * 2 ^ min (((IntKind.wrap .u64 x1) : Int)).toNat (IntKind.bits .i64))) - 1)),sA 2 2 2 0],[(2,(CV.frzRow (Vtab.row x0)))]⟩ (fun cx => ?_) ?_
       ·refine aU [(0,[]),(1,[2,8,15])] 42 [⟨[2,8,15],3,41,42⟩] [1,0] rfl kr (fun cx => ?_)
        refine b1 2 kr kr ?_
        refine lV [.rd,.rd,.rd] [] (spec_l1In n v9.Id 1 99 r10 er10) kr kr kr kr (.inl rfl) ?_
        refine lF kr kr kr ?_
        refine aU [(3,[]),(4,[])] 39 [⟨[2,8,15],3,41,42⟩] [4,3,2,1,0] rfl kr (fun cx => ?_)
        refine aT ⟨100,0,[sB 45 (!r10),sB 44 (!r10),sB 43 r10,sI 42 v9.Id,sA 41 7 3 0,sA 7 7 3 0,sI 6 y3,sI 5 (w6 ((w6 (1 * 2 ^ min (((IntKind.wrap .u64 x1) : Int)).toNat (IntKind.bits .i64))) - 1)),sA 2 2 2 0],[(7,(Vrow.row v9)),(2,(CV.frzRow (Vtab.row x0)))]⟩ kr ?_
        rw [h7]
        refine aU [(5,[]),(6,[8,15]),(7,[])] 36 [⟨[8,15],3,46,47⟩,⟨[2,8,15],3,41,42⟩] [7,6,5,4,3,2,1,0] rfl kr (fun cx => ?_)
        refine b1 8 kr kr ?_
        refine lV [.rd,.rd,.rd] [] (spec_l1In n v9.Members 0 (w6 ((w6 (1 * 2 ^ min (((IntKind.wrap .u64 x1) : Int)).toNat (IntKind.bits .i64))) - 1)) r11 er11) kr kr kr kr (.inl rfl) ?_
        refine lF kr kr kr ?_
        refine aU [(9,[]),(10,[]),(11,[])] 32 [⟨[8,15],3,46,47⟩,⟨[2,8,15],3,41,42⟩] [11,10,9,8,7,6,5,4,3,2,1,0] rfl kr (fun cx => ?_)
        refine aT ⟨100,0,[sB 52 (!r11),sB 51 (!r11),sB 50 (!r11),sB 49 r11,sI 48 (w6 ((w6 (1 * 2 ^ min (((IntKind.wrap .u64 x1) : Int)).toNat (IntKind.bits .i64))) - 1)),sI 47 v9.Members,sA 46 7 3 1,sB 45 false,sB 44 false,sB 43 r10,sI 42 v9.Id,sA 41 7 3 0,sA 7 7 3 0,sI 6 y3,sI 5 (w6 ((w6 (1 * 2 ^ min (((IntKind.wrap .u64 x1) : Int)).toNat (IntKind.bits .i64))) - 1)),sA 2 2 2 0],[(7,(Vrow.row v9)),(2,(CV.frzRow (Vtab.row x0)))]⟩ kr ?_
        rw [h8]
        refine aU [(12,[]),(13,[15]),(14,[])] 29 [⟨[15],3,53,54⟩,⟨[8,15],3,46,47⟩,⟨[2,8,15],3,41,42⟩] [14,13,12,11,10,9,8,7,6,5,4,3,2,1,0] rfl kr (fun cx => ?_)
        refine b1 15 kr kr ?_
        refine lV [.rd,.rd,.rd] [] (spec_l1In n v9.Bare 0 (w6 ((w6 (1 * 2 ^ min (((IntKind.wrap .u64 x1) : Int)).toNat (IntKind.bits .i64))) - 1)) r12 er12) kr kr kr kr (.inl rfl) ?_
        refine lF kr kr kr ?_
        refine aU [(16,[]),(17,[]),(18,[])] 25 [⟨[15],3,53,54⟩,⟨[8,15],3,46,47⟩,⟨[2,8,15],3,41,42⟩] [18,17,16,15,14,13,12,11,10,9,8,7,6,5,4,3,2,1,0] rfl kr (fun cx => ?_)
        refine aT ⟨100,0,[sB 59 (!r12),sB 58 (!r12),sB 57 (!r12),sB 56 r12,sI 55 (w6 ((w6 (1 * 2 ^ min (((IntKind.wrap .u64 x1) : Int)).toNat (IntKind.bits .i64))) - 1)),sI 54 v9.Bare,sA 53 7 3 2,sB 52 false,sB 51 false,sB 50 false,sB 49 r11,sI 48 (w6 ((w6 (1 * 2 ^ min (((IntKind.wrap .u64 x1) : Int)).toNat (IntKind.bits .i64))) - 1)),sI 47 v9.Members,sA 46 7 3 1,sB 45 false,sB 44 false,sB 43 r10,sI 42 v9.Id,sA 41 7 3 0,sA 7 7 3 0,sI 6 y3,sI 5 (w6 ((w6 (1 * 2 ^ min (((IntKind.wrap .u64 x1) : Int)).toNat (IntKind.bits .i64))) - 1)),sA 2 2 2 0],[(7,(Vrow.row v9)),(2,(CV.frzRow (Vtab.row x0)))]⟩ kr ?_
        rw [h9]
        refine aU [(19,[]),(20,[]),(21,[]),(22,[]),(23,[]),(24,[]),(25,[]),(26,[]),(27,[]),(28,[]),(29,[]),(30,[]),(31,[]),(32,[]),(33,[]),(34,[]),(35,[]),(36,[]),(37,[]),(38,[]),(39,[]),(40,[]),(41,[]),(42,[]),(43,[])] 0 [⟨[15],3,53,54⟩,⟨[8,15],3,46,47⟩,⟨[2,8,15],3,41,42⟩] [43,42,41,40,39,38,37,36,35,34,33,32,31,30,29,28,27,26,25,24,23,22,21,20,19,18,17,16,15,14,13,12,11,10,9,8,7,6,5,4,3,2,1,0] rfl kr (fun cx => ?_)
        exact AT.done [84,6,5,2] [2] _ kr kr rfl
       refine tt kr ?_
       refine tG 1 16 0 kr kr ?_
       refine te ?_
       obtain rfl := si H
       have H := Ho8
       dsimp only at H
       obtain rfl := si H
       exact fO [(false,[cB false])] kr rfl rfl
      have H := bifT h8 H
      refine Tr.draws mixed 44 kr ⟨100,0,[sB 84 true,sI 6 y3,sI 5 (w6 ((w6 (1 * 2 ^ min (((IntKind.wrap .u64 x1) : Int)).toNat (IntKind.bits .i64))) - 1)),sA 2 2 2 0],[(2,(CV.frzRow (Vtab.row x0)))]⟩ (fun cx => ?_) ?_
      ·refine aU [(0,[]),(1,[2,8])] 42 [⟨[2,8],3,41,42⟩] [1,0] rfl kr (fun cx => ?_)
       refine b1 2 kr kr ?_
       refine lV [.rd,.rd,.rd] [] (spec_l1In n v9.Id 1 99 r10 er10) kr kr kr kr (.inl rfl) ?_
       refine lF kr kr kr ?_
       refine aU [(3,[]),(4,[])] 39 [⟨[2,8],3,41,42⟩] [4,3,2,1,0] rfl kr (fun cx => ?_)
       refine aT ⟨100,0,[sB 45 (!r10),sB 44 (!r10),sB 43 r10,sI 42 v9.Id,sA 41 7 3 0,sA 7 7 3 0,sI 6 y3,sI 5 (w6 ((w6 (1 * 2 ^ min (((IntKind.wrap .u64 x1) : Int)).toNat (IntKind.bits .i64))) - 1)),sA 2 2 2 0],[(7,(Vrow.row v9)),(2,(CV.frzRow (Vtab.row x0)))]⟩ kr ?_
       rw [h7]
       refine aU [(5,[]),(6,[8]),(7,[])] 36 [⟨[8],3,46,47⟩,⟨[2,8],3,41,42⟩] [7,6,5,4,3,2,1,0] rfl kr (fun cx => ?_)
       refine b1 8 kr kr ?_
       refine lV [.rd,.rd,.rd] [] (spec_l1In n v9.Members 0 (w6 ((w6 (1 * 2 ^ min (((IntKind.wrap .u64 x1) : Int)).toNat (IntKind.bits .i64))) - 1)) r11 er11) kr kr kr kr (.inl rfl) ?_
       refine lF kr kr kr ?_
       refine aU [(9,[]),(10,[]),(11,[])] 32 [⟨[8],3,46,47⟩,⟨[2,8],3,41,42⟩] [11,10,9,8,7,6,5,4,3,2,1,0] rfl kr (fun cx => ?_)
       refine aT ⟨100,0,[sB 52 (!r11),sB 51 (!r11),sB 50 (!r11),sB 49 r11,sI 48 (w6 ((w6 (1 * 2 ^ min (((IntKind.wrap .u64 x1) : Int)).toNat (IntKind.bits .i64))) - 1)),sI 47 v9.Members,sA 46 7 3 1,sB 45 false,sB 44 false,sB 43 r10,sI 42 v9.Id,sA 41 7 3 0,sA 7 7 3 0,sI 6 y3,sI 5 (w6 ((w6 (1 * 2 ^ min (((IntKind.wrap .u64 x1) : Int)).toNat (IntKind.bits .i64))) - 1)),sA 2 2 2 0],[(7,(Vrow.row v9)),(2,(CV.frzRow (Vtab.row x0)))]⟩ kr ?_
       rw [h8]
       refine aU [(12,[]),(13,[]),(14,[]),(15,[]),(16,[]),(17,[]),(18,[]),(19,[]),(20,[]),(21,[]),(22,[]),(23,[]),(24,[]),(25,[]),(26,[]),(27,[]),(28,[]),(29,[]),(30,[]),(31,[]),(32,[]),(33,[]),(34,[]),(35,[]),(36,[]),(37,[]),(38,[]),(39,[]),(40,[]),(41,[]),(42,[]),(43,[])] 0 [⟨[8],3,46,47⟩,⟨[2,8],3,41,42⟩] [43,42,41,40,39,38,37,36,35,34,33,32,31,30,29,28,27,26,25,24,23,22,21,20,19,18,17,16,15,14,13,12,11,10,9,8,7,6,5,4,3,2,1,0] rfl kr (fun cx => ?_)
       exact AT.done [84,6,5,2] [2] _ kr kr rfl
      refine tt kr ?_
      refine tG 1 16 0 kr kr ?_
      refine te ?_
      obtain rfl := si H
      have H := Ho8
      dsimp only at H
      obtain rfl := si H
      exact fO [(false,[cB false])] kr rfl rfl
     have H := bifT h7 H
     refine Tr.draws mixed 44 kr ⟨100,0,[sB 84 true,sI 6 y3,sI 5 (w6 ((w6 (1 * 2 ^ min (((IntKind.wrap .u64 x1) : Int)).toNat (IntKind.bits .i64))) - 1)),sA 2 2 2 0],[(2,(CV.frzRow (Vtab.row x0)))]⟩ (fun cx => ?_) ?_
     ·refine aU [(0,[]),(1,[2])] 42 [⟨[2],3,41,42⟩] [1,0] rfl kr (fun cx => ?_)
      refine b1 2 kr kr ?_
      refine lV [.rd,.rd,.rd] [] (spec_l1In n v9.Id 1 99 r10 er10) kr kr kr kr (.inl rfl) ?_
      refine lF kr kr kr ?_
      refine aU [(3,[]),(4,[])] 39 [⟨[2],3,41,42⟩] [4,3,2,1,0] rfl kr (fun cx => ?_)
      refine aT ⟨100,0,[sB 45 (!r10),sB 44 (!r10),sB 43 r10,sI 42 v9.Id,sA 41 7 3 0,sA 7 7 3 0,sI 6 y3,sI 5 (w6 ((w6 (1 * 2 ^ min (((IntKind.wrap .u64 x1) : Int)).toNat (IntKind.bits .i64))) - 1)),sA 2 2 2 0],[(7,(Vrow.row v9)),(2,(CV.frzRow (Vtab.row x0)))]⟩ kr ?_
      rw [h7]
      refine aU [(5,[]),(6,[]),(7,[]),(8,[]),(9,[]),(10,[]),(11,[]),(12,[]),(13,[]),(14,[]),(15,[]),(16,[]),(17,[]),(18,[]),(19,[]),(20,[]),(21,[]),(22,[]),(23,[]),(24,[]),(25,[]),(26,[]),(27,[]),(28,[]),(29,[]),(30,[]),(31,[]),(32,[]),(33,[]),(34,[]),(35,[]),(36,[]),(37,[]),(38,[]),(39,[]),(40,[]),(41,[]),(42,[]),(43,[])] 0 [⟨[2],3,41,42⟩] [43,42,41,40,39,38,37,36,35,34,33,32,31,30,29,28,27,26,25,24,23,22,21,20,19,18,17,16,15,14,13,12,11,10,9,8,7,6,5,4,3,2,1,0] rfl kr (fun cx => ?_)
      exact AT.done [84,6,5,2] [2] _ kr kr rfl
     refine tt kr ?_
     refine tG 1 16 0 kr kr ?_
     refine te ?_
     obtain rfl := si H
     have H := Ho8
     dsimp only at H
     obtain rfl := si H
     exact fO [(false,[cB false])] kr rfl rfl
    rintro _ H
    have H : (spec_VtabOk_J1 n x0) = some r := H
    unfold spec_VtabOk_J1 at H
    refine tS ?_
    refine tG 1 260 4 kr kr ?_
    obtain ⟨o5,eo5,Ho5⟩ := bind_some H
    clear H
    refine Tr.mid (ι := Unit) (fun v => ⟨100,0,[],[]⟩) (fun v => spec_VtabOk_J2 n = some r) ?_ ?_
    ·refine tB ?_
     refine Tr.loop (ι := Nat × (Int)) (fun v => ⟨100,0,[sI 8 v.2,sA 2 2 2 0],[(2,(CV.frzRow (Vtab.row x0)))]⟩) (fun v => spec_VtabOk_L3 n v.1 x0 v.2 = some o5) (fun v => v.1) (n,0) eo5 (St.sub_of [8,2] [2] kr) ?_
     rintro ⟨mo5,y4⟩ H
     have H : spec_VtabOk_L3 n mo5 x0 y4 = some o5 := H
     obtain _ | mo5 := mo5
     ·cases (show (none : Option _) = some o5 from H)
     rw [spec_VtabOk_L3] at H
     refine tS ?_
     refine rU 3 kr ?_
     refine lL 22 3 3 87 88 none ⟨(.slot 87),[],0,false,1,(CV.frzEs (x0.Pvid.map intRow))⟩ (x0.Pvid).length _ kr kr kr kr kr (frz_len _ _) rfl ?_
     refine uD 1 0x20000000000000000000104 4 kr kr ?_
     obtain ⟨h4,H⟩ | ⟨h4,H⟩ := bC H
     ·refine tF h4 kr ?_
      refine Tr.exit ?_
      refine And.intro (fun _ => ?_) (fun h => absurd rfl h)
      obtain rfl := si H
      have H := Ho5
      dsimp only at H
      exact jn () H (sB_ [] [] kr)
     refine tT h4 kr ?_
     refine tK ?_
     refine tS ?_
     refine tB ?_
     obtain ⟨v6,ev6,H⟩ := bind_some H
     obtain ⟨r7,er7,H⟩ := bind_some H
     refine Tr.draws mixed 8 kr ⟨100,0,[sB 99 (decide (r7 < 0)),sI 8 y4,sA 2 2 2 0],[(2,(CV.frzRow (Vtab.row x0)))]⟩ (fun cx => ?_) ?_
     ·refine aU [(0,[6]),(1,[]),(2,[6]),(3,[])] 4 [⟨[6],22,93,94⟩,⟨[6],56,2,92⟩] [3,2,1,0] rfl kr (fun cx => ?_)
      refine aI 4 22 0 94 95 96 none ⟨(.box 2),[(0,0)],1,false,1,(CV.frzEs (x0.Pvid.map intRow))⟩ y4 [cI v6] _ kr kr kr kr kr kr rfl (idx_isF ev6) rfl (fun cx => ?_)
      refine aU [(5,[])] 2 [⟨[6],22,93,94⟩,⟨[6],56,2,92⟩] [5,4,3,2,1,0] rfl kr (fun cx => ?_)
      refine b1 6 kr kr ?_
      refine lV [.rd,.rd] [] (spec_RowAt n x0 v6 r7 er7) kr kr kr kr (.inl rfl) ?_
      refine lF kr kr kr ?_
      refine aU [(7,[])] 0 [⟨[6],22,93,94⟩,⟨[6],56,2,92⟩] [7,6,5,4,3,2,1,0] rfl kr (fun cx => ?_)
      exact AT.done [99,8,2] [2] _ kr kr rfl
     refine tO ⟨100,0,[sB 99 (decide (r7 < 0)),sI 8 y4,sA 2 2 2 0],[(2,(CV.frzRow (Vtab.row x0)))]⟩ kr ?_
     cases h5 : (decide (r7 < 0))
     ·have H := bifF h5 H
      refine tf kr ?_
      refine tK ?_
      refine tE 3 260 4 kr kr ?_
      exact jn (mo5,(w6 (y4 + 1))) H (sM mo5 [8,2] [2] kr)
     have H := bifT h5 H
     refine tt kr ?_
     refine tG 1 16 0 kr kr ?_
     refine te ?_
     obtain rfl := si H
     have H := Ho5
     dsimp only at H
     obtain rfl := si H
     exact fO [(false,[cB false])] kr rfl rfl
    rintro _ H
    have H : (spec_VtabOk_J2 n) = some r := H
    unfold spec_VtabOk_J2 at H
    refine tG 1 16 0 kr kr ?_
    exact te (by obtain rfl := si H; exact fO [(false,[cB true])] kr rfl rfl)
   refine tT h3 kr ?_
   refine tG 1 16 0 kr kr ?_
   exact te (by obtain rfl := si H; exact fO [(false,[cB false])] kr rfl rfl)
  have H := bifT h2 H
  refine uD 5 16777222 4 kr kr ?_
  refine tt kr ?_
  refine tG 1 16 0 kr kr ?_
  exact te (by obtain rfl := si H; exact fO [(false,[cB false])] kr rfl rfl)
 have H := bifT h1 H
 refine uD 12 16777222 4 kr kr ?_
 refine tt kr ?_
 refine tG 1 16 0 kr kr ?_
 exact te (by obtain rfl := si H; exact fO [(false,[cB false])] kr rfl rfl)
def spec_l11CountsF (n : Nat) (x0 : Bridge) : Option (Bool) :=
  ((spec_l1InF n x0.Ticks 0 1000000).bind fun r1 => (bif r1 then ((spec_l1InF n x0.Parse 0 1000000).bind fun r2 => (bif r2 then ((spec_l1InF n x0.Word 0 1000000).bind fun r3 => (bif r3 then ((spec_l1InF n x0.Drops 0 1000000).bind fun r4 => (bif r4 then ((spec_l1InF n x0.Vers 0 1000000).bind fun r5 => (some r5)) else (some false))) else (some false))) else (some false))) else (some false)))
theorem spec_l11Counts (n : Nat) (x0 : Bridge) (r : Bool) (H : spec_l11CountsF n x0 = some r) : LCall Tryz.prog 241 [.val true (CV.frzRow (Bridge.row x0))] [.val false [.lit (.bool r)]] [] := by
 refine LCall.of_body tOk Tryz.func241 rfl (c := (.seq (Rg Tryz.f241 0) (.seq (Rg Tryz.f241 1) .ret))) kr (Nat.le_of_ble_eq_true kr) 0 (rs := [.tmp 2]) rfl [] .nil [(false,[.lit (.bool r)])] [] [] fun cx => ?_
 show Tr _ _ _ ⟨26,0,[sV 0 (CV.frzRow (Bridge.row x0))],[]⟩ _
 unfold spec_l11CountsF at H
 refine tG 2 2 2 kr kr ?_
 refine rU 2 kr ?_
 obtain ⟨r1,er1,H⟩ := bind_some H
 refine lV [.rd,.rd,.rd] [] (spec_l1In n x0.Ticks 0 1000000 r1 er1) kr kr kr kr (.inl rfl) ?_
 refine lU 1 kr ?_
 refine lT ⟨26,0,[sB 6 r1,sB 5 r1,sI 4 x0.Ticks,sA 3 1 11 6,sA 1 1 11 0],[(1,(CV.frzRow (Bridge.row x0)))]⟩ kr ?_
 cases h1 : r1
 ·have H := bifF h1 H
  refine uD 20 4 0 kr kr ?_
  exact te (by obtain rfl := si H; exact fO [(false,[cB false])] kr rfl rfl)
 have H := bifT h1 H
 refine lU 2 kr ?_
 obtain ⟨r2,er2,H⟩ := bind_some H
 refine lV [.rd,.rd,.rd] [] (spec_l1In n x0.Parse 0 1000000 r2 er2) kr kr kr kr (.inl rfl) ?_
 refine lU 2 kr ?_
 refine lT ⟨26,0,[sB 11 r2,sB 10 r2,sB 9 r2,sI 8 x0.Parse,sA 7 1 11 7,sB 6 true,sB 5 true,sI 4 x0.Ticks,sA 3 1 11 6,sA 1 1 11 0],[(1,(CV.frzRow (Bridge.row x0)))]⟩ kr ?_
 cases h2 : r2
 ·have H := bifF h2 H
  refine uD 15 4 0 kr kr ?_
  exact te (by obtain rfl := si H; exact fO [(false,[cB false])] kr rfl rfl)
 have H := bifT h2 H
 refine lU 2 kr ?_
 obtain ⟨r3,er3,H⟩ := bind_some H
 refine lV [.rd,.rd,.rd] [] (spec_l1In n x0.Word 0 1000000 r3 er3) kr kr kr kr (.inl rfl) ?_
 refine lU 2 kr ?_
 refine lT ⟨26,0,[sB 16 r3,sB 15 r3,sB 14 r3,sI 13 x0.Word,sA 12 1 11 8,sB 11 true,sB 10 true,sB 9 true,sI 8 x0.Parse,sA 7 1 11 7,sB 6 true,sB 5 true,sI 4 x0.Ticks,sA 3 1 11 6,sA 1 1 11 0],[(1,(CV.frzRow (Bridge.row x0)))]⟩ kr ?_
 cases h3 : r3
 ·have H := bifF h3 H
  refine uD 10 4 0 kr kr ?_
  exact te (by obtain rfl := si H; exact fO [(false,[cB false])] kr rfl rfl)
 have H := bifT h3 H
 refine lU 2 kr ?_
 obtain ⟨r4,er4,H⟩ := bind_some H
 refine lV [.rd,.rd,.rd] [] (spec_l1In n x0.Drops 0 1000000 r4 er4) kr kr kr kr (.inl rfl) ?_
 refine lU 2 kr ?_
 refine lT ⟨26,0,[sB 21 r4,sB 20 r4,sB 19 r4,sI 18 x0.Drops,sA 17 1 11 9,sB 16 true,sB 15 true,sB 14 true,sI 13 x0.Word,sA 12 1 11 8,sB 11 true,sB 10 true,sB 9 true,sI 8 x0.Parse,sA 7 1 11 7,sB 6 true,sB 5 true,sI 4 x0.Ticks,sA 3 1 11 6,sA 1 1 11 0],[(1,(CV.frzRow (Bridge.row x0)))]⟩ kr ?_
 cases h4 : r4
 ·have H := bifF h4 H
  refine uD 5 4 0 kr kr ?_
  exact te (by obtain rfl := si H; exact fO [(false,[cB false])] kr rfl rfl)
 have H := bifT h4 H
 refine lU 2 kr ?_
 obtain ⟨r5,er5,H⟩ := bind_some H
 refine lV [.rd,.rd,.rd] [] (spec_l1In n x0.Vers 0 1000000 r5 er5) kr kr kr kr (.inl rfl) ?_
 refine uD 2 4 0 kr kr ?_
 exact te (by obtain rfl := si H; exact fO [(false,[cB r5])] kr rfl rfl)
def spec_BridgeOk_J1 (n : Nat) (x0 : Bridge) : Option (Bool) :=
  ((spec_l1InF n x0.Id 1 99).bind fun r2 => (bif r2 then (bif (decide ((x0.Name.size : Int) ≤ 10)) then ((spec_l1InF n (x0.Ports.length : Int) 1 6).bind fun r3 => (bif r3 then ((spec_FdbOkF n x0.F).bind fun r4 => (bif r4 then ((spec_VtabOkF n x0.V (x0.Ports.length : Int)).bind fun r5 => (bif r5 then ((spec_l11CountsF n x0).bind fun r6 => (some r6)) else (some false))) else (some false))) else (some false))) else (some false)) else (some false)))
def spec_BridgeOk_L2 (n : Nat) : Nat → Bridge → Int → Option ((Unit) ⊕ (Bool))
  | 0,_,_ => none
  | mo7 + 1,x0,y1 => (bif (decide (y1 < (x0.Ports.length : Int))) then ((idx x0.Ports y1).bind fun v8 => ((spec_PtOkF n v8).bind fun r9 => (bif (!r9) then (some (Sum.inr false)) else (spec_BridgeOk_L2 n mo7 x0 (IntKind.wrap .i64 (y1 + 1)))))) else (some (Sum.inl ())))
def spec_BridgeOkF (n : Nat) (x0 : Bridge) : Option (Bool) :=
  ((spec_BridgeOk_L2 n n x0 0).bind fun o => match o with | .inl _ => (spec_BridgeOk_J1 n x0) | .inr r => some r)
noncomputable abbrev G193 (k : Nat) := Rg Tryz.f193 k
theorem spec_BridgeOk (n : Nat) (x0 : Bridge) (r : Bool) (H : spec_BridgeOkF n x0 = some r) : LCall Tryz.prog 193 [.val true (CV.frzRow (Bridge.row x0))] [.val false [.lit (.bool r)]] [] := by
 refine LCall.of_body tOk Tryz.func193 rfl (c := (.seq (G193 0) (.seq (.seq (G193 1) (.block 0 (.loop (.seq (.seq (G193 2) (.cond (.tmp 8) .skip (.exit 0))) (.seq (.block 1 (.seq (G193 4) (.cond (.tmp 17) (.seq (G193 5) .ret) .skip))) (G193 3)))))) (.seq (G193 6) .ret)))) kr (Nat.le_of_ble_eq_true kr) 0 (rs := [.tmp 2]) rfl [] .nil [(false,[.lit (.bool r)])] [] [] fun cx => ?_
 show Tr _ _ _ ⟨50,0,[sV 0 (CV.frzRow (Bridge.row x0))],[]⟩ _
 unfold spec_BridgeOkF at H
 refine tG 2 2 2 kr kr ?_
 refine tS ?_
 refine tG 1 10 2 kr kr ?_
 obtain ⟨o7,eo7,Ho7⟩ := bind_some H
 clear H
 refine Tr.mid (ι := Unit) (fun v => ⟨50,0,[sA 1 1 11 0],[(1,(CV.frzRow (Bridge.row x0)))]⟩) (fun v => spec_BridgeOk_J1 n x0 = some r) ?_ ?_
 ·refine tB ?_
  refine Tr.loop (ι := Nat × (Int)) (fun v => ⟨50,0,[sI 3 v.2,sA 1 1 11 0],[(1,(CV.frzRow (Bridge.row x0)))]⟩) (fun v => spec_BridgeOk_L2 n v.1 x0 v.2 = some o7) (fun v => v.1) (n,0) eo7 (St.sub_of [3,1] [1] kr) ?_
  rintro ⟨mo7,y1⟩ H
  have H : spec_BridgeOk_L2 n mo7 x0 y1 = some o7 := H
  obtain _ | mo7 := mo7
  ·cases (show (none : Option _) = some o7 from H)
  rw [spec_BridgeOk_L2] at H
  refine tS ?_
  refine rU 3 kr ?_
  refine lL 52 3 182 6 7 none ⟨(.slot 6),[],0,false,8,(CV.frzEs (x0.Ports.map Pt.row))⟩ (x0.Ports).length _ kr kr kr kr kr (frz_len _ _) rfl ?_
  refine uD 1 266 2 kr kr ?_
  obtain ⟨h6,H⟩ | ⟨h6,H⟩ := bC H
  ·refine tF h6 kr ?_
   refine Tr.exit ?_
   refine And.intro (fun _ => ?_) (fun h => absurd rfl h)
   obtain rfl := si H
   have H := Ho7
   dsimp only at H
   exact jn () H (sB_ [1] [1] kr)
  refine tT h6 kr ?_
  refine tK ?_
  refine tS ?_
  refine tB ?_
  refine rU 3 kr ?_
  obtain ⟨v8,ev8,H⟩ := bind_some H
  refine lI 52 0 12 13 14 none ⟨(.slot 12),[],0,false,8,(CV.frzEs (x0.Ports.map Pt.row))⟩ y1 (Pt.row v8) _ kr kr kr kr rfl (idx_isF ev8) rfl ?_
  refine lU 1 kr ?_
  obtain ⟨r9,er9,H⟩ := bind_some H
  refine lV [.rd] [] (spec_PtOk n v8 r9 er9) kr kr kr kr (.inl rfl) ?_
  refine uD 1 131082 2 kr kr ?_
  obtain ⟨h7,H⟩ | ⟨h7,H⟩ := bC H
  ·refine tF h7 kr ?_
   refine tK ?_
   refine tE 3 10 2 kr kr ?_
   exact jn (mo7,(w6 (y1 + 1))) H (sM mo7 [3,1] [1] kr)
  refine tT h7 kr ?_
  refine tG 1 4 0 kr kr ?_
  refine te ?_
  obtain rfl := si H
  have H := Ho7
  dsimp only at H
  obtain rfl := si H
  exact fO [(false,[cB false])] kr rfl rfl
 rintro _ H
 have H : (spec_BridgeOk_J1 n x0) = some r := H
 unfold spec_BridgeOk_J1 at H
 refine rU 2 kr ?_
 obtain ⟨r2,er2,H⟩ := bind_some H
 refine lV [.rd,.rd,.rd] [] (spec_l1In n x0.Id 1 99 r2 er2) kr kr kr kr (.inl rfl) ?_
 refine lU 1 kr ?_
 refine lT ⟨50,0,[sB 21 r2,sB 20 r2,sI 19 x0.Id,sA 18 1 11 0,sA 1 1 11 0],[(1,(CV.frzRow (Bridge.row x0)))]⟩ kr ?_
 cases h1 : r2
 ·have H := bifF h1 H
  refine uD 29 4 0 kr kr ?_
  exact te (by obtain rfl := si H; exact fO [(false,[cB false])] kr rfl rfl)
 have H := bifT h1 H
 refine lU 6 kr ?_
 refine lT ⟨50,0,[sB 27 (decide ((x0.Name.size : Int) ≤ 10)),sB 26 (decide ((x0.Name.size : Int) ≤ 10)),sB 25 (decide ((x0.Name.size : Int) ≤ 10)),sI 24 (x0.Name.size : Int),sC 23 (cS x0.Name),sA 22 1 11 1,sB 21 true,sB 20 true,sI 19 x0.Id,sA 18 1 11 0,sA 1 1 11 0],[(1,(CV.frzRow (Bridge.row x0)))]⟩ kr ?_
 cases h2 : (decide ((x0.Name.size : Int) ≤ 10))
 ·have H := bifF h2 H
  refine uD 23 4 0 kr kr ?_
  exact te (by obtain rfl := si H; exact fO [(false,[cB false])] kr rfl rfl)
 have H := bifT h2 H
 refine lU 2 kr ?_
 refine lL 52 3 182 29 30 (some (9,true)) ⟨(.slot 29),[],0,false,8,(CV.frzEs (x0.Ports.map Pt.row))⟩ (x0.Ports).length _ kr kr kr kr kr (frz_len _ _) rfl ?_
 obtain ⟨r3,er3,H⟩ := bind_some H
 refine lV [.rd,.rd,.rd] [] (spec_l1In n (x0.Ports.length : Int) 1 6 r3 er3) kr kr kr kr (.inl rfl) ?_
 refine lU 2 kr ?_
 refine lT ⟨50,0,[sB 33 r3,sB 32 r3,sB 31 r3,sI 30 (x0.Ports.length : Int),sC 29 (cF 8 x0.Ports Pt.row),sA 28 1 11 2,sB 27 true,sB 26 true,sB 25 true,sI 24 (x0.Name.size : Int),sC 23 (cS x0.Name),sA 22 1 11 1,sB 21 true,sB 20 true,sI 19 x0.Id,sA 18 1 11 0,sA 1 1 11 0],[(1,(CV.frzRow (Bridge.row x0)))]⟩ kr ?_
 cases h3 : r3
 ·have H := bifF h3 H
  refine uD 17 4 0 kr kr ?_
  exact te (by obtain rfl := si H; exact fO [(false,[cB false])] kr rfl rfl)
 have H := bifT h3 H
 refine lU 2 kr ?_
 obtain ⟨r4,er4,H⟩ := bind_some H
 refine lV [.rd] [] (spec_FdbOk n x0.F r4 er4) kr kr kr kr (.inl rfl) ?_
 refine lU 2 kr ?_
 refine lT ⟨50,0,[sB 38 r4,sB 37 r4,sB 36 r4,sC 35 (cF 5 x0.F Fent.row),sA 34 1 11 3,sB 33 true,sB 32 true,sB 31 true,sI 30 (x0.Ports.length : Int),sC 29 (cF 8 x0.Ports Pt.row),sA 28 1 11 2,sB 27 true,sB 26 true,sB 25 true,sI 24 (x0.Name.size : Int),sC 23 (cS x0.Name),sA 22 1 11 1,sB 21 true,sB 20 true,sI 19 x0.Id,sA 18 1 11 0,sA 1 1 11 0],[(1,(CV.frzRow (Bridge.row x0)))]⟩ kr ?_
 cases h4 : r4
 ·have H := bifF h4 H
  refine uD 12 4 0 kr kr ?_
  exact te (by obtain rfl := si H; exact fO [(false,[cB false])] kr rfl rfl)
 have H := bifT h4 H
 refine lU 4 kr ?_
 refine lL 52 3 182 42 43 (some (20,true)) ⟨(.slot 42),[],0,false,8,(CV.frzEs (x0.Ports.map Pt.row))⟩ (x0.Ports).length _ kr kr kr kr kr (frz_len _ _) rfl ?_
 obtain ⟨r5,er5,H⟩ := bind_some H
 refine lV [.rd,.rd] [] (spec_VtabOk n x0.V (x0.Ports.length : Int) r5 er5) kr kr kr kr (.inl rfl) ?_
 refine lU 2 kr ?_
 refine lT ⟨50,0,[sB 46 r5,sB 45 r5,sB 44 r5,sI 43 (x0.Ports.length : Int),sC 42 (cF 8 x0.Ports Pt.row),sA 41 1 11 2,sV 40 (((CV.frzRow (Bridge.row x0)).drop 4).take 2),sA 39 1 11 4,sB 38 true,sB 37 true,sB 36 true,sC 35 (cF 5 x0.F Fent.row),sA 34 1 11 3,sB 33 true,sB 32 true,sB 31 true,sI 30 (x0.Ports.length : Int),sC 29 (cF 8 x0.Ports Pt.row),sA 28 1 11 2,sB 27 true,sB 26 true,sB 25 true,sI 24 (x0.Name.size : Int),sC 23 (cS x0.Name),sA 22 1 11 1,sB 21 true,sB 20 true,sI 19 x0.Id,sA 18 1 11 0,sA 1 1 11 0],[(1,(CV.frzRow (Bridge.row x0)))]⟩ kr ?_
 cases h5 : r5
 ·have H := bifF h5 H
  refine uD 4 4 0 kr kr ?_
  exact te (by obtain rfl := si H; exact fO [(false,[cB false])] kr rfl rfl)
 have H := bifT h5 H
 refine lU 1 kr ?_
 obtain ⟨r6,er6,H⟩ := bind_some H
 refine lV [.rd] [] (spec_l11Counts n x0 r6 er6) kr kr kr kr (.inl rfl) ?_
 refine uD 2 4 0 kr kr ?_
 exact te (by obtain rfl := si H; exact fO [(false,[cB r6])] kr rfl rfl)
def spec_l13Used_J1 (n : Nat) (y3 : Int) : Option (Int) :=
  (some y3)
def spec_l13Used_J3 (n : Nat) (k : (Int × Int → Option ((Int) ⊕ (Int)))) (v5 : Link) (x1 : Int) (x2 : Int) (y1 : Int) (y6 : Int) : Option ((Int) ⊕ (Int)) :=
  (bif (v5.B == x1) then (bif (v5.Q == x2) then (k ((IntKind.wrap .i64 (y1 + 1)),(IntKind.wrap .i64 (y6 + 1)))) else (k ((IntKind.wrap .i64 (y1 + 1)),y6))) else (k ((IntKind.wrap .i64 (y1 + 1)),y6)))
def spec_l13Used_L2 (n : Nat) : Nat → Net → Int → Int → Int → Int → Option ((Int) ⊕ (Int))
  | 0,_,_,_,_,_ => none
  | mo4 + 1,x0,x1,x2,y1,y2 => (bif (decide (y1 < (x0.Links.length : Int))) then ((idx x0.Links y1).bind fun v5 => (bif (v5.A == x1) then (bif (v5.P == x2) then (spec_l13Used_J3 n (fun v => spec_l13Used_L2 n mo4 x0 x1 x2 v.1 v.2) v5 x1 x2 y1 (IntKind.wrap .i64 (y2 + 1))) else (spec_l13Used_J3 n (fun v => spec_l13Used_L2 n mo4 x0 x1 x2 v.1 v.2) v5 x1 x2 y1 y2)) else (spec_l13Used_J3 n (fun v => spec_l13Used_L2 n mo4 x0 x1 x2 v.1 v.2) v5 x1 x2 y1 y2))) else (some (Sum.inl y2)))
def spec_l13UsedF (n : Nat) (x0 : Net) (x1 : Int) (x2 : Int) : Option (Int) :=
  ((spec_l13Used_L2 n n x0 x1 x2 0 0).bind fun o => match o with | .inl y3 => (spec_l13Used_J1 n y3) | .inr r => some r)
noncomputable abbrev G233 (k : Nat) := Rg Tryz.f233 k
theorem spec_l13Used (n : Nat) (x0 : Net) (x1 : Int) (x2 : Int) (r : Int) (H : spec_l13UsedF n x0 x1 x2 = some r) : LCall Tryz.prog 233 [.val true (CV.frzRow (Net.row x0)),.val false [.lit (.int .i64 x1)],.val false [.lit (.int .i64 x2)]] [.val false [.lit (.int .i64 r)]] [] := by
 refine LCall.of_body tOk Tryz.func233 rfl (c := (.seq (G233 0) (.seq (G233 1) (.seq (.seq (G233 2) (.block 0 (.loop (.seq (.seq (G233 3) (.cond (.tmp 14) .skip (.exit 0))) (.seq (.block 1 (.seq (G233 5) (.seq (.seq (G233 6) (.cond (.tmp 31) (G233 7) .skip)) (.seq (G233 8) (.cond (.tmp 43) (G233 9) .skip))))) (G233 4)))))) (.seq (G233 10) .ret))))) kr (Nat.le_of_ble_eq_true kr) 0 (rs := [.tmp 6]) rfl [] .nil [(false,[.lit (.int .i64 r)])] [] [] fun cx => ?_
 show Tr _ _ _ ⟨47,0,[sV 0 (CV.frzRow (Net.row x0)),sI 1 x1,sI 2 x2],[]⟩ _
 unfold spec_l13UsedF at H
 refine tG 2 14 8 kr kr ?_
 refine tG 1 142 8 kr kr ?_
 refine tS ?_
 refine tG 1 398 8 kr kr ?_
 obtain ⟨o4,eo4,Ho4⟩ := bind_some H
 clear H
 refine Tr.mid (ι := Int) (fun v => ⟨47,0,[sI 7 v],[]⟩) (fun v => spec_l13Used_J1 n v = some r) ?_ ?_
 ·refine tB ?_
  refine Tr.loop (ι := Nat × (Int × Int)) (fun v => ⟨47,0,[sI 8 v.2.1,sI 7 v.2.2,sA 3 3 3 0,sI 1 x1,sI 2 x2],[(3,(CV.frzRow (Net.row x0)))]⟩) (fun v => spec_l13Used_L2 n v.1 x0 x1 x2 v.2.1 v.2.2 = some o4) (fun v => v.1) (n,(0,0)) eo4 (St.sub_of [8,7,3,1,2] [3] kr) ?_
  rintro ⟨mo4,y1,y2⟩ H
  have H : spec_l13Used_L2 n mo4 x0 x1 x2 y1 y2 = some o4 := H
  obtain _ | mo4 := mo4
  ·cases (show (none : Option _) = some o4 from H)
  rw [spec_l13Used_L2] at H
  refine tS ?_
  refine rU 3 kr ?_
  refine lL 26 3 126 12 13 none ⟨(.slot 12),[],0,false,4,(CV.frzEs (x0.Links.map Link.row))⟩ (x0.Links).length _ kr kr kr kr kr (frz_len _ _) rfl ?_
  refine uD 1 16782 8 kr kr ?_
  obtain ⟨h1,H⟩ | ⟨h1,H⟩ := bC H
  ·refine tF h1 kr ?_
   refine Tr.exit ?_
   refine And.intro (fun _ => ?_) (fun h => absurd rfl h)
   obtain rfl := si H
   have H := Ho4
   dsimp only at H
   exact jn y2 H (sB_ [7] [] kr)
  refine tT h1 kr ?_
  refine tK ?_
  refine tS ?_
  refine tB ?_
  refine rU 3 kr ?_
  obtain ⟨v5,ev5,H⟩ := bind_some H
  refine lI 26 0 18 19 20 none ⟨(.slot 18),[],0,false,4,(CV.frzEs (x0.Links.map Link.row))⟩ y1 (Link.row v5) _ kr kr kr kr rfl (idx_isF ev5) rfl ?_
  refine uD 3 910 520 kr kr ?_
  refine tS ?_
  refine Tr.mid (ι := Int) (fun v => ⟨47,0,[sA 9 9 4 0,sI 8 y1,sI 7 v,sA 3 3 3 0,sI 1 x1,sI 2 x2],[(9,(Link.row v5)),(3,(CV.frzRow (Net.row x0)))]⟩) (fun v => spec_l13Used_J3 n (fun v => spec_l13Used_L2 n mo4 x0 x1 x2 v.1 v.2) v5 x1 x2 y1 v = some o4) ?_ ?_
  ·refine rU 5 kr ?_
   refine lT ⟨47,0,[sB 26 (v5.A == x1),sB 25 (v5.A == x1),sI 24 x1,sI 23 v5.A,sA 22 9 4 0,sA 9 9 4 0,sI 8 y1,sI 7 y2,sA 3 3 3 0,sI 1 x1,sI 2 x2],[(9,(Link.row v5)),(3,(CV.frzRow (Net.row x0)))]⟩ kr ?_
   cases h4 : (v5.A == x1)
   ·have H := bifF h4 H
    refine uD 5 2147484558 520 kr kr ?_
    refine tf kr ?_
    refine tK ?_
    exact jn y2 H (sB_ [9,8,7,3,1,2] [9,3] kr)
   have H := bifT h4 H
   refine uD 5 2147484558 520 kr kr ?_
   obtain ⟨h5,H⟩ | ⟨h5,H⟩ := bC H
   ·refine tF h5 kr ?_
    refine tK ?_
    exact jn y2 H (sB_ [9,8,7,3,1,2] [9,3] kr)
   refine tT h5 kr ?_
   refine tE 3 910 520 kr kr ?_
   exact jn (w6 (y2 + 1)) H (sB_ [9,8,7,3,1,2] [9,3] kr)
  rintro y6 H
  have H : (spec_l13Used_J3 n (fun v => spec_l13Used_L2 n mo4 x0 x1 x2 v.1 v.2) v5 x1 x2 y1 y6) = some o4 := H
  unfold spec_l13Used_J3 at H
  refine rU 5 kr ?_
  refine lT ⟨47,0,[sB 38 (v5.B == x1),sB 37 (v5.B == x1),sI 36 x1,sI 35 v5.B,sA 34 9 4 2,sA 9 9 4 0,sI 8 y1,sI 7 y6,sA 3 3 3 0,sI 1 x1,sI 2 x2],[(9,(Link.row v5)),(3,(CV.frzRow (Net.row x0)))]⟩ kr ?_
  cases h2 : (v5.B == x1)
  ·have H := bifF h2 H
   refine uD 5 8796093022606 8 kr kr ?_
   refine tf kr ?_
   refine tK ?_
   refine tE 3 398 8 kr kr ?_
   exact jn (mo4,((w6 (y1 + 1)),y6)) H (sM mo4 [8,7,3,1,2] [3] kr)
  have H := bifT h2 H
  refine uD 5 8796093022606 8 kr kr ?_
  obtain ⟨h3,H⟩ | ⟨h3,H⟩ := bC H
  ·refine tF h3 kr ?_
   refine tK ?_
   refine tE 3 398 8 kr kr ?_
   exact jn (mo4,((w6 (y1 + 1)),y6)) H (sM mo4 [8,7,3,1,2] [3] kr)
  refine tT h3 kr ?_
  refine tE 3 398 8 kr kr ?_
  refine tE 3 398 8 kr kr ?_
  exact jn (mo4,((w6 (y1 + 1)),(w6 (y6 + 1)))) H (sM mo4 [8,7,3,1,2] [3] kr)
 rintro y3 H
 have H : (spec_l13Used_J1 n y3) = some r := H
 unfold spec_l13Used_J1 at H
 refine tG 2 64 0 kr kr ?_
 exact te (by obtain rfl := si H; exact fO [(false,[cI y3])] kr rfl rfl)
def spec_l13Bridges_J1 (n : Nat) (x0 : Net) : Option (Bool) :=
  ((spec_l1InF n (x0.Bridges.length : Int) 1 6).bind fun r2 => (some r2))
def spec_l13Bridges_J4 (n : Nat) (k : (Int → Option ((Unit) ⊕ (Bool)))) (y1 : Int) : Option ((Unit) ⊕ (Bool)) :=
  (k (IntKind.wrap .i64 (y1 + 1)))
def spec_l13Bridges_L5 (n : Nat) : Nat → Net → Int → Int → Option ((Unit) ⊕ (Bool))
  | 0,_,_,_ => none
  | mo8 + 1,x0,y1,y7 => ((idx x0.Bridges y1).bind fun v9 => (bif (decide (y7 < (v9.Ports.length : Int))) then ((idx x0.Bridges y1).bind fun v10 => ((idx v10.Ports y7).bind fun v11 => (bif v11.Has then ((spec_l13UsedF n x0 y1 y7).bind fun r12 => (bif (r12 == 0) then (some (Sum.inr false)) else (spec_l13Bridges_L5 n mo8 x0 y1 (IntKind.wrap .i64 (y7 + 1))))) else (spec_l13Bridges_L5 n mo8 x0 y1 (IntKind.wrap .i64 (y7 + 1)))))) else (some (Sum.inl ()))))
def spec_l13Bridges_J3 (n : Nat) (k : (Int → Option ((Unit) ⊕ (Bool)))) (x0 : Net) (y1 : Int) : Option ((Unit) ⊕ (Bool)) :=
  ((spec_l13Bridges_L5 n n x0 y1 0).bind fun o => match o with | .inl _ => (spec_l13Bridges_J4 n k y1) | .inr r => some (Sum.inr r))
def spec_l13Bridges_L6 (n : Nat) : Nat → Net → Int → Int → Option ((Unit) ⊕ (Bool))
  | 0,_,_,_ => none
  | mo13 + 1,x0,y1,y6 => (bif (decide (y6 < y1)) then ((idx x0.Bridges y6).bind fun v14 => ((idx x0.Bridges y1).bind fun v15 => (bif (v14.Id == v15.Id) then (some (Sum.inr false)) else (spec_l13Bridges_L6 n mo13 x0 y1 (IntKind.wrap .i64 (y6 + 1)))))) else (some (Sum.inl ())))
def spec_l13Bridges_L2 (n : Nat) : Nat → Net → Int → Option ((Unit) ⊕ (Bool))
  | 0,_,_ => none
  | mo3 + 1,x0,y1 => (bif (decide (y1 < (x0.Bridges.length : Int))) then ((idx x0.Bridges y1).bind fun v4 => ((spec_BridgeOkF n v4).bind fun r5 => (bif (!r5) then (some (Sum.inr false)) else ((spec_l13Bridges_L6 n n x0 y1 0).bind fun o => match o with | .inl _ => (spec_l13Bridges_J3 n (fun v => spec_l13Bridges_L2 n mo3 x0 v) x0 y1) | .inr r => some (Sum.inr r))))) else (some (Sum.inl ())))
def spec_l13BridgesF (n : Nat) (x0 : Net) : Option (Bool) :=
  ((spec_l13Bridges_L2 n n x0 0).bind fun o => match o with | .inl _ => (spec_l13Bridges_J1 n x0) | .inr r => some r)
noncomputable abbrev G175 (k : Nat) := Rg Tryz.f175 k
theorem spec_l13Bridges (n : Nat) (x0 : Net) (r : Bool) (H : spec_l13BridgesF n x0 = some r) : LCall Tryz.prog 175 [.val true (CV.frzRow (Net.row x0))] [.val false [.lit (.bool r)]] [] := by
 refine LCall.of_body tOk Tryz.func175 rfl (c := (.seq (G175 0) (.seq (.seq (G175 1) (.block 0 (.loop (.seq (.seq (G175 2) (.cond (.tmp 10) .skip (.exit 0))) (.seq (.block 1 (.seq (.seq (G175 4) (.cond (.tmp 19) (.seq (G175 5) .ret) .skip)) (.seq (.seq (G175 6) (.block 2 (.loop (.seq (.seq (G175 7) (.cond (.tmp 22) .skip (.exit 2))) (.seq (.block 3 (.seq (Rd Tryz.f175 9) (.cond (.tmp 37) (.seq (G175 10) .ret) .skip))) (G175 8)))))) (.seq (G175 11) (.block 4 (.loop (.seq (.seq (G175 12) (.cond (.tmp 46) .skip (.exit 4))) (.seq (.block 5 (.seq (G175 14) (.cond (.tmp 65) (.seq (G175 15) .ret) .skip))) (G175 13))))))))) (G175 3)))))) (.seq (G175 16) .ret)))) kr (Nat.le_of_ble_eq_true kr) 0 (rs := [.tmp 2]) rfl [] .nil [(false,[.lit (.bool r)])] [] [] fun cx => ?_
 show Tr _ _ _ ⟨70,0,[sV 0 (CV.frzRow (Net.row x0))],[]⟩ _
 unfold spec_l13BridgesF at H
 refine tG 2 2 2 kr kr ?_
 refine tS ?_
 refine tG 1 10 2 kr kr ?_
 obtain ⟨o3,eo3,Ho3⟩ := bind_some H
 clear H
 refine Tr.mid (ι := Unit) (fun v => ⟨70,0,[sA 1 1 3 0],[(1,(CV.frzRow (Net.row x0)))]⟩) (fun v => spec_l13Bridges_J1 n x0 = some r) ?_ ?_
 ·refine tB ?_
  refine Tr.loop (ι := Nat × (Int)) (fun v => ⟨70,0,[sI 3 v.2,sA 1 1 3 0],[(1,(CV.frzRow (Net.row x0)))]⟩) (fun v => spec_l13Bridges_L2 n v.1 x0 v.2 = some o3) (fun v => v.1) (n,0) eo3 (St.sub_of [3,1] [1] kr) ?_
  rintro ⟨mo3,y1⟩ H
  have H : spec_l13Bridges_L2 n mo3 x0 y1 = some o3 := H
  obtain _ | mo3 := mo3
  ·cases (show (none : Option _) = some o3 from H)
  rw [spec_l13Bridges_L2] at H
  refine tS ?_
  refine rU 3 kr ?_
  refine lL 25 3 58 8 9 none ⟨(.slot 8),[],0,false,11,(CV.frzEs (x0.Bridges.map Bridge.row))⟩ (x0.Bridges).length _ kr kr kr kr kr (frz_len _ _) rfl ?_
  refine uD 1 1034 2 kr kr ?_
  obtain ⟨h1,H⟩ | ⟨h1,H⟩ := bC H
  ·refine tF h1 kr ?_
   refine Tr.exit ?_
   refine And.intro (fun _ => ?_) (fun h => absurd rfl h)
   obtain rfl := si H
   have H := Ho3
   dsimp only at H
   exact jn () H (sB_ [1] [1] kr)
  refine tT h1 kr ?_
  refine tK ?_
  refine tS ?_
  refine tB ?_
  refine tS ?_
  refine rU 3 kr ?_
  obtain ⟨v4,ev4,H⟩ := bind_some H
  refine lI 25 0 14 15 16 none ⟨(.slot 14),[],0,false,11,(CV.frzEs (x0.Bridges.map Bridge.row))⟩ y1 (CV.frzRow (Bridge.row v4)) _ kr kr kr kr rfl (idx_isF ev4) rfl ?_
  refine lU 1 kr ?_
  obtain ⟨r5,er5,H⟩ := bind_some H
  refine lV [.rd] [] (spec_BridgeOk n v4 r5 er5) kr kr kr kr (.inl rfl) ?_
  refine uD 1 524298 2 kr kr ?_
  obtain ⟨h2,H⟩ | ⟨h2,H⟩ := bC H
  ·refine tF h2 kr ?_
   refine tK ?_
   refine tS ?_
   refine tG 1 26 2 kr kr ?_
   obtain ⟨o13,eo13,Ho13⟩ := bind_some H
   clear H
   refine Tr.mid (ι := Unit) (fun v => ⟨70,0,[sI 3 y1,sA 1 1 3 0],[(1,(CV.frzRow (Net.row x0)))]⟩) (fun v => spec_l13Bridges_J3 n (fun v => spec_l13Bridges_L2 n mo3 x0 v) x0 y1 = some o3) ?_ ?_
   ·refine tB ?_
    refine Tr.loop (ι := Nat × (Int)) (fun v => ⟨70,0,[sI 4 v.2,sI 3 y1,sA 1 1 3 0],[(1,(CV.frzRow (Net.row x0)))]⟩) (fun v => spec_l13Bridges_L6 n v.1 x0 y1 v.2 = some o13) (fun v => v.1) (n,0) eo13 (St.sub_of [4,3,1] [1] kr) ?_
    rintro ⟨mo13,y6⟩ H
    have H : spec_l13Bridges_L6 n mo13 x0 y1 y6 = some o13 := H
    obtain _ | mo13 := mo13
    ·cases (show (none : Option _) = some o13 from H)
    rw [spec_l13Bridges_L6] at H
    refine tS ?_
    refine tG 3 4194330 2 kr kr ?_
    obtain ⟨h6,H⟩ | ⟨h6,H⟩ := bC H
    ·refine tF h6 kr ?_
     refine Tr.exit ?_
     refine And.intro (fun _ => ?_) (fun h => absurd rfl h)
     obtain rfl := si H
     have H := Ho13
     dsimp only at H
     exact jn () H (sB_ [3,1] [1] kr)
    refine tT h6 kr ?_
    refine tK ?_
    refine tS ?_
    refine tB ?_
    obtain ⟨v14,ev14,H⟩ := bind_some H
    obtain ⟨v15,ev15,H⟩ := bind_some H
    refine Tr.draws mixed 13 kr ⟨70,0,[sB 37 (v14.Id == v15.Id),sI 4 y6,sI 3 y1,sA 1 1 3 0],[(1,(CV.frzRow (Net.row x0)))]⟩ (fun cx => ?_) ?_
    ·refine aU [(0,[]),(1,[]),(2,[])] 10 [⟨[],25,25,26⟩] [2,1,0] rfl kr (fun cx => ?_)
     refine aI 3 25 0 26 27 28 none ⟨(.box 1),[(0,0)],0,false,11,(CV.frzEs (x0.Bridges.map Bridge.row))⟩ y6 (CV.frzRow (Bridge.row v14)) _ kr kr kr kr kr kr rfl (idx_isF ev14) rfl (fun cx => ?_)
     refine aU [(4,[]),(5,[]),(6,[]),(7,[]),(8,[])] 4 [⟨[],25,31,32⟩,⟨[],25,25,26⟩] [8,7,6,5,4,3,2,1,0] rfl kr (fun cx => ?_)
     refine aI 9 25 0 32 33 34 none ⟨(.box 1),[(0,0)],0,false,11,(CV.frzEs (x0.Bridges.map Bridge.row))⟩ y1 (CV.frzRow (Bridge.row v15)) _ kr kr kr kr kr kr rfl (idx_isF ev15) rfl (fun cx => ?_)
     refine aU [(10,[]),(11,[]),(12,[])] 0 [⟨[],25,31,32⟩,⟨[],25,25,26⟩] [12,11,10,9,8,7,6,5,4,3,2,1,0] rfl kr (fun cx => ?_)
     exact AT.done [37,4,3,1] [1] _ kr kr rfl
    refine tO ⟨70,0,[sB 37 (v14.Id == v15.Id),sI 4 y6,sI 3 y1,sA 1 1 3 0],[(1,(CV.frzRow (Net.row x0)))]⟩ kr ?_
    cases h7 : (v14.Id == v15.Id)
    ·have H := bifF h7 H
     refine tf kr ?_
     refine tK ?_
     refine tE 3 26 2 kr kr ?_
     exact jn (mo13,(w6 (y6 + 1))) H (sM mo13 [4,3,1] [1] kr)
    have H := bifT h7 H
    refine tt kr ?_
    refine tG 1 4 0 kr kr ?_
    refine te ?_
    obtain rfl := si H
    have H := Ho13
    dsimp only at H
    obtain rfl := si H
    have H := Ho3
    dsimp only at H
    obtain rfl := si H
    exact fO [(false,[cB false])] kr rfl rfl
   rintro _ H
   have H : (spec_l13Bridges_J3 n (fun v => spec_l13Bridges_L2 n mo3 x0 v) x0 y1) = some o3 := H
   unfold spec_l13Bridges_J3 at H
   refine tG 1 42 2 kr kr ?_
   obtain ⟨o8,eo8,Ho8⟩ := bind_some H
   clear H
   refine Tr.mid (ι := Unit) (fun v => ⟨70,0,[sI 3 y1,sA 1 1 3 0],[(1,(CV.frzRow (Net.row x0)))]⟩) (fun v => spec_l13Bridges_J4 n (fun v => spec_l13Bridges_L2 n mo3 x0 v) y1 = some o3) ?_ ?_
   ·refine tB ?_
    refine Tr.loop (ι := Nat × (Int)) (fun v => ⟨70,0,[sI 5 v.2,sI 3 y1,sA 1 1 3 0],[(1,(CV.frzRow (Net.row x0)))]⟩) (fun v => spec_l13Bridges_L5 n v.1 x0 y1 v.2 = some o8) (fun v => v.1) (n,0) eo8 (St.sub_of [5,3,1] [1] kr) ?_
    rintro ⟨mo8,y7⟩ H
    have H : spec_l13Bridges_L5 n mo8 x0 y1 y7 = some o8 := H
    obtain _ | mo8 := mo8
    ·cases (show (none : Option _) = some o8 from H)
    rw [spec_l13Bridges_L5] at H
    refine tS ?_
    refine rU 4 kr ?_
    obtain ⟨v9,ev9,H⟩ := bind_some H
    refine lI 25 0 40 41 42 none ⟨(.slot 40),[],0,false,11,(CV.frzEs (x0.Bridges.map Bridge.row))⟩ y1 (CV.frzRow (Bridge.row v9)) _ kr kr kr kr rfl (idx_isF ev9) rfl ?_
    refine lU 2 kr ?_
    refine lL 52 3 182 44 45 none ⟨(.slot 44),[],0,false,8,(CV.frzEs (v9.Ports.map Pt.row))⟩ (v9.Ports).length _ kr kr kr kr kr (frz_len _ _) rfl ?_
    refine uD 1 70368744177706 2 kr kr ?_
    obtain ⟨h3,H⟩ | ⟨h3,H⟩ := bC H
    ·refine tF h3 kr ?_
     refine Tr.exit ?_
     refine And.intro (fun _ => ?_) (fun h => absurd rfl h)
     obtain rfl := si H
     have H := Ho8
     dsimp only at H
     exact jn () H (sB_ [3,1] [1] kr)
    refine tT h3 kr ?_
    refine tK ?_
    refine tS ?_
    refine tB ?_
    refine rU 3 kr ?_
    obtain ⟨v10,ev10,H⟩ := bind_some H
    refine lI 25 0 50 51 52 none ⟨(.slot 50),[],0,false,11,(CV.frzEs (x0.Bridges.map Bridge.row))⟩ y1 (CV.frzRow (Bridge.row v10)) _ kr kr kr kr rfl (idx_isF ev10) rfl ?_
    refine lU 3 kr ?_
    obtain ⟨v11,ev11,H⟩ := bind_some H
    refine lI 52 0 54 55 56 none ⟨(.slot 54),[],0,false,8,(CV.frzEs (v10.Ports.map Pt.row))⟩ y7 (Pt.row v11) _ kr kr kr kr rfl (idx_isF ev11) rfl ?_
    refine lU 3 kr ?_
    refine lT ⟨70,0,[sB 59 v11.Has,sB 58 v11.Has,(57,.fad (((Pt.row v11).drop 2))),(56,.fad ((Pt.row v11))),sI 55 y7,sC 54 (cF 8 v10.Ports Pt.row),(53,.fad (((CV.frzRow (Bridge.row v10)).drop 2))),(52,.fad ((CV.frzRow (Bridge.row v10)))),sI 51 y1,sC 50 (cF 11 x0.Bridges Bridge.row),sA 49 1 3 0,sB 46 (decide (y7 < (v9.Ports.length : Int))),sI 5 y7,sI 3 y1,sA 1 1 3 0],[(1,(CV.frzRow (Net.row x0)))]⟩ kr ?_
    cases h4 : v11.Has
    ·have H := bifF h4 H
     refine uD 6 0x2000000000000002a 2 kr kr ?_
     refine tf kr ?_
     refine tK ?_
     refine tE 3 42 2 kr kr ?_
     exact jn (mo8,(w6 (y7 + 1))) H (sM mo8 [5,3,1] [1] kr)
    have H := bifT h4 H
    refine lU 3 kr ?_
    obtain ⟨r12,er12,H⟩ := bind_some H
    refine lV [.rd,.rd,.rd] [] (spec_l13Used n x0 y1 y7 r12 er12) kr kr kr kr (.inl rfl) ?_
    refine uD 2 0x2000000000000002a 2 kr kr ?_
    obtain ⟨h5,H⟩ | ⟨h5,H⟩ := bC H
    ·refine tF h5 kr ?_
     refine tK ?_
     refine tE 3 42 2 kr kr ?_
     exact jn (mo8,(w6 (y7 + 1))) H (sM mo8 [5,3,1] [1] kr)
    refine tT h5 kr ?_
    refine tG 1 4 0 kr kr ?_
    refine te ?_
    obtain rfl := si H
    have H := Ho8
    dsimp only at H
    obtain rfl := si H
    have H := Ho3
    dsimp only at H
    obtain rfl := si H
    exact fO [(false,[cB false])] kr rfl rfl
   rintro _ H
   have H : (spec_l13Bridges_J4 n (fun v => spec_l13Bridges_L2 n mo3 x0 v) y1) = some o3 := H
   unfold spec_l13Bridges_J4 at H
   refine tE 3 10 2 kr kr ?_
   exact jn (mo3,(w6 (y1 + 1))) H (sM mo3 [3,1] [1] kr)
  refine tT h2 kr ?_
  refine tG 1 4 0 kr kr ?_
  refine te ?_
  obtain rfl := si H
  have H := Ho3
  dsimp only at H
  obtain rfl := si H
  exact fO [(false,[cB false])] kr rfl rfl
 rintro _ H
 have H : (spec_l13Bridges_J1 n x0) = some r := H
 unfold spec_l13Bridges_J1 at H
 refine rU 2 kr ?_
 refine lL 25 3 58 67 68 none ⟨(.slot 67),[],0,false,11,(CV.frzEs (x0.Bridges.map Bridge.row))⟩ (x0.Bridges).length _ kr kr kr kr kr (frz_len _ _) rfl ?_
 obtain ⟨r2,er2,H⟩ := bind_some H
 refine lV [.rd,.rd,.rd] [] (spec_l1In n (x0.Bridges.length : Int) 1 6 r2 er2) kr kr kr kr (.inl rfl) ?_
 refine uD 1 4 0 kr kr ?_
 exact te (by obtain rfl := si H; exact fO [(false,[cB r2])] kr rfl rfl)
def spec_l13EndF (n : Nat) (x0 : Net) (x1 : Int) (x2 : Int) : Option (Bool) :=
  ((spec_l1InF n x1 0 (IntKind.wrap .i64 ((x0.Bridges.length : Int) - 1))).bind fun r1 => (bif r1 then ((idx x0.Bridges x1).bind fun v2 => ((spec_l1InF n x2 0 (IntKind.wrap .i64 ((v2.Ports.length : Int) - 1))).bind fun r3 => (bif r3 then ((spec_l13UsedF n x0 x1 x2).bind fun r4 => (some (r4 == 1))) else (some false)))) else (some false)))
theorem spec_l13End (n : Nat) (x0 : Net) (x1 : Int) (x2 : Int) (r : Bool) (H : spec_l13EndF n x0 x1 x2 = some r) : LCall Tryz.prog 176 [.val true (CV.frzRow (Net.row x0)),.val false [.lit (.int .i64 x1)],.val false [.lit (.int .i64 x2)]] [.val false [.lit (.bool r)]] [] := by
 refine LCall.of_body tOk Tryz.func176 rfl (c := (.seq (Rg Tryz.f176 0) (.seq (Rg Tryz.f176 1) .ret))) kr (Nat.le_of_ble_eq_true kr) 0 (rs := [.tmp 6]) rfl [] .nil [(false,[.lit (.bool r)])] [] [] fun cx => ?_
 show Tr _ _ _ ⟨32,0,[sV 0 (CV.frzRow (Net.row x0)),sI 1 x1,sI 2 x2],[]⟩ _
 unfold spec_l13EndF at H
 refine tG 2 14 8 kr kr ?_
 refine rU 3 kr ?_
 refine lL 25 3 58 9 10 none ⟨(.slot 9),[],0,false,11,(CV.frzEs (x0.Bridges.map Bridge.row))⟩ (x0.Bridges).length _ kr kr kr kr kr (frz_len _ _) rfl ?_
 refine lU 1 kr ?_
 obtain ⟨r1,er1,H⟩ := bind_some H
 refine lV [.rd,.rd,.rd] [] (spec_l1In n x1 0 (w6 ((x0.Bridges.length : Int) - 1)) r1 er1) kr kr kr kr (.inl rfl) ?_
 refine lU 1 kr ?_
 refine lT ⟨32,0,[sB 13 r1,sB 12 r1,sI 11 (w6 ((x0.Bridges.length : Int) - 1)),sI 10 (x0.Bridges.length : Int),sC 9 (cF 11 x0.Bridges Bridge.row),sA 8 3 3 0,sI 7 x1,sA 3 3 3 0,sI 1 x1,sI 2 x2],[(3,(CV.frzRow (Net.row x0)))]⟩ kr ?_
 cases h1 : r1
 ·have H := bifF h1 H
  refine uD 19 64 0 kr kr ?_
  exact te (by obtain rfl := si H; exact fO [(false,[cB false])] kr rfl rfl)
 have H := bifT h1 H
 refine lU 4 kr ?_
 obtain ⟨v2,ev2,H⟩ := bind_some H
 refine lI 25 0 16 17 18 (some (6,true)) ⟨(.slot 16),[],0,false,11,(CV.frzEs (x0.Bridges.map Bridge.row))⟩ x1 (CV.frzRow (Bridge.row v2)) _ kr kr kr kr rfl (idx_isF ev2) rfl ?_
 refine lU 2 kr ?_
 refine lL 52 3 182 20 21 (some (6,true)) ⟨(.slot 20),[],0,false,8,(CV.frzEs (v2.Ports.map Pt.row))⟩ (v2.Ports).length _ kr kr kr kr kr (frz_len _ _) rfl ?_
 refine lU 1 kr ?_
 obtain ⟨r3,er3,H⟩ := bind_some H
 refine lV [.rd,.rd,.rd] [] (spec_l1In n x2 0 (w6 ((v2.Ports.length : Int) - 1)) r3 er3) kr kr kr kr (.inl rfl) ?_
 refine lU 2 kr ?_
 refine lT ⟨32,0,[sB 25 r3,sB 24 r3,sB 23 r3,sI 22 (w6 ((v2.Ports.length : Int) - 1)),sI 21 (v2.Ports.length : Int),sC 20 (cF 8 v2.Ports Pt.row),(19,.fad (((CV.frzRow (Bridge.row v2)).drop 2))),(18,.fad ((CV.frzRow (Bridge.row v2)))),sI 17 x1,sC 16 (cF 11 x0.Bridges Bridge.row),sA 15 3 3 0,sI 14 x2,sB 13 true,sB 12 true,sI 11 (w6 ((x0.Bridges.length : Int) - 1)),sI 10 (x0.Bridges.length : Int),sC 9 (cF 11 x0.Bridges Bridge.row),sA 8 3 3 0,sI 7 x1,sA 3 3 3 0,sI 1 x1,sI 2 x2],[(3,(CV.frzRow (Net.row x0)))]⟩ kr ?_
 cases h2 : r3
 ·have H := bifF h2 H
  refine uD 7 64 0 kr kr ?_
  exact te (by obtain rfl := si H; exact fO [(false,[cB false])] kr rfl rfl)
 have H := bifT h2 H
 refine lU 3 kr ?_
 obtain ⟨r4,er4,H⟩ := bind_some H
 refine lV [.rd,.rd,.rd] [] (spec_l13Used n x0 x1 x2 r4 er4) kr kr kr kr (.inl rfl) ?_
 refine uD 3 64 0 kr kr ?_
 exact te (by obtain rfl := si H; exact fO [(false,[cB (r4 == 1)])] kr rfl rfl)
end Go.Proofs.YtibocmoaaahjfaaGreat.Tw
