import Derived.Test.YtajadnlejdpceaaTlU5
set_option linter.unusedVariables false
namespace Go.TL
abbrev Rg (fn : Func) (k : Nat) : Code := .region k (rg fn k) false
abbrev Rd (fn : Func) (k : Nat) : Code := .region k (rg fn k) true
theorem Tr.ct {P cx st} {c : Operand} {x y : Code} {Q : Exit → St → Prop} (hc : zg st c = some (.bool true)) (h : Tr P cx x st Q) : Tr P cx (.cond c x y) st Q := Tr.cond hc (fun _ => h) (fun h => nomatch h)
theorem Tr.cf {P cx st} {c : Operand} {x y : Code} {Q : Exit → St → Prop} (hc : zg st c = some (.bool false)) (h : Tr P cx y st Q) : Tr P cx (.cond c x y) st Q := Tr.cond hc (fun h => nomatch h) (fun _ => h)
theorem Tr.cT {P cx st} {c : Operand} {x y : Code} {Q : Exit → St → Prop} {e : Bool} (he : e = true) (hc : zg st c = some (.bool e)) (h : Tr P cx x st Q) : Tr P cx (.cond c x y) st Q := Tr.ct (by rw [hc,he]) h
theorem Tr.cF {P cx st} {c : Operand} {x y : Code} {Q : Exit → St → Prop} {e : Bool} (he : e = false) (hc : zg st c = some (.bool e)) (h : Tr P cx y st Q) : Tr P cx (.cond c x y) st Q := Tr.cf (by rw [hc,he]) h
theorem Tr.rgn {P : Program} {cx : Cx} {T : Nat → Option TI} (hT : TOk P T) {st : St} {id : Nat} {ops : Array Oper} {c : Code} {Q : Exit → St → Prop} (n m b : Nat) (h1 : (zAN T ops 0 n st).isSome = true) (h2 : Nat.ble ops.size (0 + n) = true) (hk : Tr P cx c ((Jk T ops 0 n st).onlyM m b) Q) : Tr P cx (.seq (.region id ops false) c) st Q :=
 Tr.rs (LAt.runU hT n h1 (LAt.doneM m b h2 hk))
theorem Tr.rgE {P : Program} {cx : Cx} {T : Nat → Option TI} (hT : TOk P T) {st : St} {id : Nat} {ops : Array Oper} {Q : Exit → St → Prop} (n m b : Nat) (h1 : (zAN T ops 0 n st).isSome = true) (h2 : Nat.ble ops.size (0 + n) = true) (hk : Q .normal ((Jk T ops 0 n st).onlyM m b)) : Tr P cx (.region id ops false) st Q :=
 Tr.at (LAt.runU hT n h1 (LAt.doneM m b h2 hk))
def Qh (ops : Array Oper) (i : Nat) : Array Operand := match opAt ops i with
 | some (.call c,_,_,_) => c.args
 | _ => #[]
def YA (ops : Array Oper) (i : Nat) : Array TypeId := match opAt ops i with
 | some (.call c,_,_,_) => c.argTypes
 | _ => #[]
def opD (ops : Array Oper) (i : Nat) : Option Nat := match opAt ops i with
 | some (_,d,_,_) => d
 | _ => none
def opY (ops : Array Oper) (i : Nat) : TypeId := match opAt ops i with
 | some (_,_,t,_) => t
 | _ => 0
def opG (ops : Array Oper) (i : Nat) : Option (Nat × Bool) := match opAt ops i with
 | some (_,_,_,g) => g
 | _ => none
def dB (st : St) : Option Nat → Bool
 | some d => zV st d
 | none => true
theorem LAt.callV {P : Program} {cx : Cx} {T : Nat → Option TI} (hT : TOk P T) {ops : Array Oper} {i : Nat} {st : St} {K : St → Prop} (ms : List Mode) (brs : List zD) {f : FuncId} {ps : List qS} {rets : List Ret} (hL : zG P f ps rets [])
  (hop : opAt ops i = some (.call { callee := .value (.func f),args := Qh ops i,argTypes := YA ops i },opD ops i,opY ops i,opG ops i)) (hg : gdT ops st (opG ops i) = true) (hd : dB st (opD ops i) = true)
  (hq : (zBi T ms (Qh ops i).toList (YA ops i).toList (opD ops i) rets st).map (fun x => (x.1,x.2.1)) = some (ps,brs)) (hmine : brs = [] ∨ ∀ r ∈ rets,r.mine) (hk : LAt P cx ops (i + 1) (zCn T ms (Qh ops i).toList (YA ops i).toList (opD ops i) rets st) K) : LAt P cx ops i st K := by
 have key : ∀ (av : Array Operand) (ats : Array TypeId) (d : Option Nat) (ty : TypeId) (g : Option (Nat × Bool)),opAt ops i = some (.call { callee := .value (.func f),args := av,argTypes := ats },d,ty,g) → gdT ops st g = true → dB st d = true →
   (zBi T ms av.toList ats.toList d rets st).map (fun x => (x.1,x.2.1)) = some (ps,brs) → LAt P cx ops (i + 1) (zCn T ms av.toList ats.toList d rets st) K → LAt P cx ops i st K := fun av ats d ty g hop hg hd hq hk => by
  cases d with
  | none => exact LAt.callU hT ms hop hg rfl brs hL hq hmine hk
  | some d => exact LAt.callU hT ms hop hg hd brs hL hq hmine hk
 exact key _ _ _ _ _ hop hg hd hq hk
def rowB (st : St) (r : zD) : List CV := match rowOf st r with
 | some x => x
 | none => []
def zA8 (st : St) (r : zD) : List CV := match zAC st r with
 | some x => x
 | none => []
def zH1 (kd : Bool) (st : St) (r : zD) (n o : Nat) (c : CV) : St := zI3 kd st r n ((zA8 st r).set o c)
theorem LAt.storeS {P : Program} {cx : Cx} {T : Nat → Option TI} (hT : TOk P T) {ops : Array Oper} {n : Nat} {st : St} {K : St → Prop} {t ty : TypeId} {ad x : Operand} {g : Option (Nat × Bool)} (i : TI) (ag : Bool) (tcs : List CV) (k : Nat) (o2 j m o sz : Nat) {α : Type} (L : List α) (row : α → List CV) (el new : α)
  (hop : opAt ops n = some (.store t ad x,none,ty,g)) (hg : gdT ops st g = true) (ht : T t = some i) (hx : (qr T st t x).map (fun tk => (tk.ag,tk.cs)) = some (ag,tcs)) (hl : (tcs.length == i.size) = true) (ha : zDG (qt T st t x) ad = some (.slot k,[(o2,j)],m,o,zA8 (qt T st t x) (.slot k))) (hrr : zAC (qt T st t x) (.slot k) = some (zA8 (qt T st t x) (.slot k)))
  (hc : (zA8 (qt T st t x) (.slot k))[o2]? = some (.sl true sz (L.map row))) (he : L[j]? = some el) (hm : (row el).length = m) (hle : Nat.ble (o + i.size) m = true) (hf : setAt o tcs (row el) = row new)
  (hst : ((qt T st t x).modRK (CV.flatRow tcs) (.slot k) 1 ((zA8 (qt T st t x) (.slot k)).set o2 (.sl true sz ((L.set j new).map row)))).isSome = true) (hk : LAt P cx ops (n + 1) (zH1 (CV.flatRow tcs) (qt T st t x) (.slot k) 1 o2 (.sl true sz ((L.set j new).map row))) K) : LAt P cx ops n st K :=
 LAt.storeK hT i ag tcs (.slot k) [(o2,j)] [(o2,j)] m o _ (row el) _ _ hop hg ht hx hl ha (Yh hc he) hm (by intro h; cases h) hle hrr rfl (zFG hc he hf) hst hk
theorem LAt.storeB {P : Program} {cx : Cx} {T : Nat → Option TI} (hT : TOk P T) {ops : Array Oper} {n : Nat} {st : St} {K : St → Prop} {t ty : TypeId} {ad x : Operand} {g : Option (Nat × Bool)} (i : TI) (ag : Bool) (tcs : List CV) (k : Nat) (o2 j m o sz : Nat) {α : Type} (L : List α) (row : α → List CV) (el new : α)
  (hop : opAt ops n = some (.store t ad x,none,ty,g)) (hg : gdT ops st g = true) (ht : T t = some i) (hx : (qr T st t x).map (fun tk => (tk.ag,tk.cs)) = some (ag,tcs)) (hl : (tcs.length == i.size) = true) (ha : zDG (qt T st t x) ad = some (.box k,[(0,0),(o2,j)],m,o,[.sl true (zA8 (qt T st t x) (.box k)).length [zA8 (qt T st t x) (.box k)]])) (hrr : zAC (qt T st t x) (.box k) = some (zA8 (qt T st t x) (.box k)))
  (hc : (zA8 (qt T st t x) (.box k))[o2]? = some (.sl true sz (L.map row))) (he : L[j]? = some el) (hm : (row el).length = m) (hle : Nat.ble (o + i.size) m = true) (hf : setAt o tcs (row el) = row new)
  (hst : ((qt T st t x).modRK (CV.flatRow tcs) (.box k) 2 ((zA8 (qt T st t x) (.box k)).set o2 (.sl true sz ((L.set j new).map row)))).isSome = true) (hk : LAt P cx ops (n + 1) (zH1 (CV.flatRow tcs) (qt T st t x) (.box k) 2 o2 (.sl true sz ((L.set j new).map row))) K) : LAt P cx ops n st K :=
 LAt.storeK hT i ag tcs (.box k) [(0,0),(o2,j)] [(o2,j)] m o _ (row el) _ _ hop hg ht hx hl ha (zK hc he) hm (by intro h; cases h) hle hrr rfl (zFG hc he hf) hst hk
end Go.TL
