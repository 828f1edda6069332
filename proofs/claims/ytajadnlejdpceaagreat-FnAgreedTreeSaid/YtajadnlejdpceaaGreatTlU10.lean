import Derived.Test.YtajadnlejdpceaaGreatTlU9
set_option linter.unusedVariables false
namespace Go.TL
open Go
def qI : List Nat → Nat
 | [] => 0
 | i :: E => Nat.lor (qI E) (2 ^ i)
theorem zFd (a b i : Nat) : (Nat.lor a b).testBit i = (a.testBit i || b.testBit i) := Nat.testBit_or a b i
theorem zDq (E : List Nat) (i : Nat) : (qI E).testBit i = decide (i ∈ E) := by
 induction E with
 | nil => simp [qI]
 | cons j E ih =>
  rw [qI,zFd,ih,Nat.testBit_two_pow]
  by_cases h : j = i
  ·subst h; simp
  ·have : ¬ i = j := fun e => h e.symm
   simp [h,this]
structure Tab where
 sz : Nat
 A : List Nat
 F : List Nat
 W : List Nat
def zFM (o : Oper) : List Nat := (o.after.toList.filter fun e => Region.binds .any e).map (·.on)
theorem zFN {o : Oper} {i : Nat} : i ∈ zFM o ↔ ∃ e ∈ o.after,Region.binds .any e = true ∧ e.on = i := by
 unfold zFM
 simp only [List.mem_map,List.mem_filter,Array.mem_toList_iff]
 constructor
 ·rintro ⟨e,⟨h1,h2⟩,h3⟩; exact ⟨e,h1,h2,h3⟩
 ·rintro ⟨e,h1,h2,h3⟩; exact ⟨e,⟨h1,h2⟩,h3⟩
def wOf (W : List Nat) : List Nat → Nat
 | [] => 0
 | e :: L => Nat.lor (wOf W L) (W.getD e 0)
theorem zNB (W L : List Nat) (i : Nat) (h : (wOf W L).testBit i = true) : ∃ e ∈ L,(W.getD e 0).testBit i = true := by
 induction L with
 | nil => simp [wOf] at h
 | cons e L ih =>
  rw [wOf,zFd,Bool.or_eq_true] at h
  rcases h with h | h
  ·obtain ⟨e',h1,h2⟩ := ih h; exact ⟨e',List.mem_cons_of_mem _ h1,h2⟩
  ·exact ⟨e,List.mem_cons_self,h⟩
def zFG (ops : Array Oper) (t : Tab) (k : Nat) (o : Oper) : Bool :=
 Nat.beq (t.A.getD k 0) (qI (zFM o)) && ((zFM o).all (fun e => Nat.blt e k) && (Nat.beq (t.W.getD k 0) (Nat.lor (qI (zFM o)) (wOf t.W (zFM o))) &&
 (List.range t.sz).all fun j => (t.F.getD k 0).testBit j || (j == k || match ops[j]? with | some oj => oj.after.any (fun e => Region.binds .any e && e.on == k) || o.apart ops oj | none => true)))
def za (ops : Array Oper) (t : Tab) : Bool := Nat.beq ops.size t.sz && (Region.noSelect ops && (List.range t.sz).all fun k => match ops[k]? with | some o => zFG ops t k o | none => false)
theorem zCk {ops : Array Oper} {t : Tab} (h : za ops t = true) : ops.size = t.sz := by
 unfold za at h; rw [Bool.and_eq_true] at h; exact Nat.eq_of_beq_eq_true h.1
theorem zGs {ops : Array Oper} {t : Tab} (h : za ops t = true) {k : Nat} {o : Oper} (ho : ops[k]? = some o) : zFG ops t k o = true := by
 have hs := zCk h
 unfold za at h
 rw [Bool.and_eq_true,Bool.and_eq_true,List.all_eq_true] at h
 have := h.2.2 k (List.mem_range.2 (by rw [← hs]; exact (Array.getElem?_eq_some_iff.1 ho).1))
 rw [ho] at this
 exact this
theorem zOe {ops : Array Oper} {t : Tab} (h : za ops t = true) {k : Nat} {o : Oper} (ho : ops[k]? = some o) : t.A.getD k 0 = qI (zFM o) := by
 have := zGs h ho
 unfold zFG at this
 rw [Bool.and_eq_true] at this
 exact Nat.eq_of_beq_eq_true this.1
theorem zKZ {ops : Array Oper} {t : Tab} (h : za ops t = true) {k : Nat} {o : Oper} (ho : ops[k]? = some o) {e : Nat} (he : e ∈ zFM o) : e < k := by
 have := zGs h ho
 unfold zFG at this
 rw [Bool.and_eq_true,Bool.and_eq_true,List.all_eq_true] at this
 exact Nat.le_of_ble_eq_true (this.2.1 e he)
theorem zNH {ops : Array Oper} {t : Tab} (h : za ops t = true) : ∀ (n k i : Nat),k < n → k < ops.size → (t.W.getD k 0).testBit i = true → zFJ ops n k i = true
 | 0,k,i,hk,_,_ => by omega
 | n + 1,k,i,hk,hks,hi => by
  have ho : ops[k]? = some ops[k] := Array.getElem?_eq_getElem hks
  have hr := zGs h ho
  unfold zFG at hr
  rw [Bool.and_eq_true,Bool.and_eq_true,Bool.and_eq_true] at hr
  rw [Nat.eq_of_beq_eq_true hr.2.2.1,zFd,Bool.or_eq_true] at hi
  unfold zFJ
  rw [ho]
  simp only
  rw [Array.any_eq_true']
  rcases hi with hi | hi
  ·rw [zDq,decide_eq_true_eq] at hi
   obtain ⟨e,h1,h2,h3⟩ := zFN.1 hi
   exact ⟨e,h1,by rw [h2,h3]; simp⟩
  ·obtain ⟨e',h1,h2⟩ := zNB _ _ _ hi
   have hlt := zKZ h ho h1
   obtain ⟨e,g1,g2,rfl⟩ := zFN.1 h1
   refine ⟨e,g1,?_⟩
   rw [g2,zNH h n e.on i (by omega) (by omega) h2]
   simp
theorem zJ5 (ops : Array Oper) (E : List Nat) : (lsd ops E).size = ops.size := by
 unfold lsd
 induction E with
 | nil => simp
 | cons j E ih => simp only [List.foldr_cons,Array.size_setIfInBounds]; exact ih
theorem zBv {ops : Array Oper} {i : Nat} (h : i < ops.size) (d : Bool) : ∀ E : List Nat,(lsd ops E).getD i d = (qI E).testBit i
 | [] => by
  unfold lsd qI
  simp [Array.getD,h]
 | j :: E => by
  have ih := zBv h d E
  have hs := zJ5 ops E
  have : lsd ops (j :: E) = (lsd ops E).setIfInBounds j true := rfl
  rw [this,qI,zFd,Nat.testBit_two_pow,← ih]
  by_cases e : j = i
  ·subst e
   simp [Array.getD_eq_getD_getElem?,hs,h]
  ·simp [Array.getD_eq_getD_getElem?,e]
theorem zNU {ops : Array Oper} {i : Nat} (h : ops.size ≤ i) (d : Bool) (E : List Nat) : (lsd ops E).getD i d = d := by
 rw [Array.getD_eq_getD_getElem?,Array.getElem?_eq_none (by rw [zJ5]; exact h)]; rfl
def zHm (a m : Nat) : Bool := Nat.beq (Nat.land a m) a
theorem zKX {a m : Nat} : zHm a m = true ↔ ∀ i,a.testBit i = true → m.testBit i = true := by
 unfold zHm
 constructor
 ·intro h i hi
  have h := Nat.eq_of_beq_eq_true h
  have : (Nat.land a m).testBit i = a.testBit i := by rw [h]
  have h2 : (Nat.land a m).testBit i = (a.testBit i && m.testBit i) := Nat.testBit_and a m i
  rw [h2,hi] at this
  simpa using this
 ·intro h
  have : Nat.land a m = a := by
   apply Nat.eq_of_testBit_eq
   intro i
   have h2 : (Nat.land a m).testBit i = (a.testBit i && m.testBit i) := Nat.testBit_and a m i
   rw [h2]
   cases hi : a.testBit i with
   | false => rfl
   | true => rw [h i hi]; rfl
  rw [this]; exact Nat.beq_refl a
theorem zF3 {ops : Array Oper} {t : Tab} (ht : za ops t = true) {k : Nat} {o : Oper} (ho : ops[k]? = some o) (E : List Nat) : (∀ e ∈ o.after,Region.binds .any e = true → (lsd ops E).getD e.on false = true) ↔ zHm (t.A.getD k 0) (qI E) = true := by
 have hk : k < ops.size := (Array.getElem?_eq_some_iff.1 ho).1
 rw [zKX,zOe ht ho]
 constructor
 ·intro h i hi
  rw [zDq,decide_eq_true_eq] at hi
  have hlt := zKZ ht ho hi
  obtain ⟨e,h1,h2,rfl⟩ := zFN.1 hi
  rw [← zBv (show e.on < ops.size by omega) false E]
  exact h e h1 h2
 ·intro h e h1 h2
  have hm : e.on ∈ zFM o := zFN.2 ⟨e,h1,h2,rfl⟩
  have hlt := zKZ ht ho hm
  rw [zBv (show e.on < ops.size by omega) false E]
  exact h _ (by rw [zDq]; simpa using hm)
def okM (t : Tab) (m : Nat) (E : List Nat) (ps : List Pin) (i : Nat) (D : List Nat) : Bool :=
 Nat.blt i t.sz && (!m.testBit i && (zHm (t.A.getD i 0) m && (E.all (fun k => zHm (t.A.getD k 0) m) && (zHm (t.F.getD i 0) m && (ps.all (fun p => !p.D.contains i) && D.all fun k => !(k == i) && (Nat.blt k t.sz && (t.W.getD k 0).testBit i))))))
theorem zMS {ops : Array Oper} {t : Tab} (ht : za ops t = true) {E : List Nat} {ps : List Pin} {i : Nat} {D : List Nat} (h : okM t (qI E) E ps i D = true) : okE ops ps E i D = true := by
 have hs := zCk ht
 unfold okM at h
 simp only [Bool.and_eq_true,Bool.not_eq_true',List.all_eq_true] at h
 obtain ⟨h1,h2,h3,h4,h5,h6,h7⟩ := h
 have hi : i < ops.size := by rw [hs]; exact Nat.le_of_ble_eq_true h1
 have ho : ops[i]? = some ops[i] := Array.getElem?_eq_getElem hi
 unfold okE
 simp only [Bool.and_eq_true]
 refine ⟨⟨⟨⟨⟨?_,?_⟩,?_⟩,?_⟩,?_⟩,?_⟩
 ·unfold za at ht
  rw [Bool.and_eq_true,Bool.and_eq_true] at ht
  exact ht.2.1
 ·unfold Region.free
  rw [ho]
  simp only [List.all_eq_true,List.mem_range]
  intro j hj
  have hr := zGs ht ho
  unfold zFG at hr
  rw [Bool.and_eq_true,Bool.and_eq_true,Bool.and_eq_true] at hr
  have hj2 := List.all_eq_true.1 hr.2.2.2 j (List.mem_range.2 (by omega))
  rw [Bool.or_eq_true,Bool.or_eq_true] at hj2
  rcases hj2 with hj2 | hj2 | hj2
  ·have := zKX.1 h5 j hj2
   rw [zBv hj true E,this]
   simp
  ·rw [hj2]; rfl
  ·simp only [Bool.or_eq_true]
   right
   exact hj2
 ·rw [List.contains_iff_mem]
  refine mem_ready.2 ⟨by rw [zBv hi true E]; exact h2,ops[i],ho,(zF3 ht ho E).2 h3⟩
 ·unfold clB
  rw [List.all_eq_true]
  intro k hk
  have hk : k < ops.size := List.mem_range.1 hk
  have hok : ops[k]? = some ops[k] := Array.getElem?_eq_getElem hk
  cases hl : (lsd ops E).getD k false with
  | false => rfl
  | true =>
   rw [zBv hk false E,zDq,decide_eq_true_eq] at hl
   rw [hok]
   simp only [Bool.not_true,Bool.false_or,Array.all_eq_true_iff_forall_mem,Bool.or_eq_true,Bool.not_eq_true']
   intro e he
   cases hb : Region.binds .any e with
   | false => exact .inl rfl
   | true => exact .inr ((zF3 ht hok E).2 (h4 k hl) e he hb)
 ·rw [List.all_eq_true]
  intro p hp
  rw [h6 p hp]; rfl
 ·rw [List.all_eq_true]
  intro k hk
  obtain ⟨g1,g2,g3⟩ := h7 k hk
  rw [g1,Bool.not_false,Bool.true_and]
  have hlt : k < ops.size := by rw [hs]; exact Nat.le_of_ble_eq_true g2
  exact zNH ht _ _ _ hlt hlt g3
def J4 (sz m : Nat) (p : Pin) : Bool := p.D.all fun k => !(Nat.blt k sz && m.testBit k)
theorem zFc (ops : Array Oper) (E : List Nat) (p : Pin) : p.live (lsd ops E) = J4 ops.size (qI E) p := by
 unfold Pin.live J4
 congr 1
 funext k
 by_cases h : k < ops.size
 ·rw [zBv h false E,show Nat.blt k ops.size = true from Nat.ble_eq_true_of_le h]; rfl
 ·rw [zNU (by omega) false E]
  have : Nat.blt k ops.size = false := by
   cases hb : Nat.blt k ops.size with
   | false => rfl
   | true => exact absurd (Nat.le_of_ble_eq_true hb) h
  rw [this]; rfl
def zEq (sz m : Nat) (ps : List Pin) (d : Option Nat) : Bool := ps.all fun p => !J4 sz m p || (d != some p.x && d != some p.d)
theorem zLA (ops : Array Oper) (E : List Nat) (ps : List Pin) (d : Option Nat) : Y0 ps (lsd ops E) d = zEq ops.size (qI E) ps d := by
 unfold Y0 zEq
 congr 1
 funext p
 rw [zFc]
theorem oM {ops : Array Oper} {t : Tab} (ht : za ops t = true) {E : List Nat} {ps : List Pin} {i : Nat} {D : List Nat} (h : okM t (qI E) E ps i D = true) : okE ops ps E i D = true := zMS ht h
theorem dM {ops : Array Oper} {t : Tab} (ht : za ops t = true) {E : List Nat} {ps : List Pin} {d : Option Nat} (h : zEq t.sz (qI E) ps d = true) : Y0 ps (lsd ops E) d = true := by rw [zLA,zCk ht]; exact h
def zMB (T : Nat → Option TI) (ops : Array Oper) (ps : List Pin) (D : List Nat) (st : St) (o : Oper) : Option (List Pin × St) := match gdK ops st o.guard with
  | none => none
  | some false => (match D with
   | [] => (match o.dst with
    | none => some (ps,st)
    | some d => bif zb st d then some (ps,st.forget (some d)) else none)
   | _ => none)
  | some true => (match o.dst with
   | none => none
   | some d => bif zb st d then (match o.op with
    | .load t (.tmp x) => (match T t with
     | none => none
     | some ti => (match lk st.s x with
      | some (.fad cs0) => (match D with
       | [] => bif (cs0.take ti.size).length == ti.size then some (ps,st.put d (.val ti.ag (cs0.take ti.size))) else none
       | _ => none)
      | _ => (match adS st (.tmp x) with
       | some s => bif ((s.e.drop s.o).take ti.size).length == ti.size && !s.r.eqb (.slot d) && !(d == x) then some (⟨D,t,x,d⟩ :: ps,st.put d (ldV ti s ((s.e.drop s.o).take ti.size))) else none
       | none => none)))
    | op => (match D with
     | [] => bif zID T st op then (match zCL T st op o.type (some d) with
      | some st' => some (ps,st')
      | none => none) else none
     | _ => none)) else none)
theorem zMD (T : Nat → Option TI) (ops : Array Oper) (ps : List Pin) (E : List Nat) (i : Nat) (D : List Nat) (st : St) : zF7 T ops ps E i D st = match ops[i]? with
 | none => none
 | some o => bif okE ops ps E i D && Y0 ps (lsd ops E) o.dst then zMB T ops ps D st o else none := rfl
def zJr (T : Nat → Option TI) (ops : Array Oper) (t : Tab) (ps : List Pin) (m : Nat) (E : List Nat) (i : Nat) (D : List Nat) (st : St) : Option (List Pin × St) := match ops[i]? with
 | none => none
 | some o => bif okM t m E ps i D && zEq t.sz m ps o.dst then zMB T ops ps D st o else none
theorem zMC {T : Nat → Option TI} {ops : Array Oper} {t : Tab} (ht : za ops t = true) {ps : List Pin} {E : List Nat} {i : Nat} {D : List Nat} {st : St} {x : List Pin × St} (h : zJr T ops t ps (qI E) E i D st = some x) : zF7 T ops ps E i D st = some x := by
 rw [zMD]
 unfold zJr at h
 cases ho : ops[i]? with
 | none => rw [ho] at h; cases h
 | some o =>
  rw [ho] at h
  simp only at h ⊢
  cases hc : (okM t (qI E) E ps i D && zEq t.sz (qI E) ps o.dst) with
  | false => rw [hc] at h; cases h
  | true =>
   rw [hc] at h
   rw [Bool.and_eq_true] at hc
   rw [zMS ht hc.1,dM ht hc.2]
   exact h
def zEv (T : Nat → Option TI) (ops : Array Oper) (t : Tab) : List (Nat × List Nat) → List Pin → List Nat → Nat → St → Option (List Pin × List Nat × St)
 | [],ps,E,m,st => some (ps,E,st)
 | (i,D) :: l,ps,E,m,st => match zJr T ops t ps m E i D st with
  | some (ps',st') => zEv T ops t l ps' (i :: E) (Nat.lor m (2 ^ i)) st'
  | none => none
theorem zLN {T : Nat → Option TI} {ops : Array Oper} {t : Tab} (ht : za ops t = true) : ∀ (l : List (Nat × List Nat)) (ps : List Pin) (E : List Nat) (st : St) (x : List Pin × List Nat × St),zEv T ops t l ps E (qI E) st = some x → zCF T ops l ps E st = some x
 | [],ps,E,st,x,h => h
 | (i,D) :: l,ps,E,st,x,h => by
  simp only [zEv] at h
  simp only [zCF]
  split at h
  ·rename_i ps' st' h1
   rw [zMC ht h1]
   exact zLN ht l ps' (i :: E) st' x h
  ·cases h
def zKK (T : Nat → Option TI) (ops : Array Oper) (t : Tab) (l : List (Nat × List Nat)) (ps : List Pin) (E : List Nat) (st : St) : St := match zEv T ops t l ps E (qI E) st with
 | some x => x.2.2
 | none => ⟨0,0,[],[]⟩
theorem mU {P : Program} {cx : Cx} {T : Nat → Option TI} (hT : TOk P T) {ops : Array Oper} {t : Tab} (ht : za ops t = true) {K : St → Prop} {m : Nat} {ps : List Pin} {E : List Nat} {st : St} (l : List (Nat × List Nat)) (n : Nat) (ps' : List Pin) (E' : List Nat) (hn : n + l.length = m) (h : (zEv T ops t l ps E (qI E) st).map (fun x => (x.1,x.2.1)) = some (ps',E'))
  (hk : ∀ cx',AT P cx' ops ps' n E' (zKK T ops t l ps E st) K) : AT P cx ops ps m E st K := by
 unfold zKK at hk
 cases hc : zEv T ops t l ps E (qI E) st with
 | none => rw [hc] at h; cases h
 | some x =>
  obtain ⟨ps1,E1,st1⟩ := x
  rw [hc] at h hk
  cases h
  exact AT.run hT l n _ _ st1 hn (zLN ht l ps E st _ hc) hk
def zDI (t : Tab) (m : Nat) : List Nat := (List.range t.sz).filter fun i => !m.testBit i && zHm (t.A.getD i 0) m
theorem zEf {ops : Array Oper} {t : Tab} (ht : za ops t = true) (E : List Nat) : Region.ready .any ops (lsd ops E) = zDI t (qI E) := by
 unfold Region.ready zDI
 rw [← zCk ht]
 refine List.filter_congr fun i hi => ?_
 have hi : i < ops.size := List.mem_range.1 hi
 have ho : ops[i]? = some ops[i] := Array.getElem?_eq_getElem hi
 rw [zBv hi true E,ho]
 congr 1
 rw [Bool.eq_iff_iff,← zF3 ht ho E]
 simp only [Option.map_some,Option.getD_some,Array.all_eq_true_iff_forall_mem,Bool.or_eq_true,Bool.not_eq_true']
 constructor
 ·intro h e he hb
  exact (h e he).resolve_left (by rw [hb]; simp)
 ·intro h e he
  cases hb : Region.binds .any e with
  | false => exact .inl rfl
  | true => exact .inr (h e he hb)
theorem mD {P : Program} {cx : Cx} {ops : Array Oper} {t : Tab} (ht : za ops t = true) {ps : List Pin} {n : Nat} {E : List Nat} {st : St} {K : St → Prop} (ls bs : List Nat) (st' : St) (hr : zDI t (qI E) = []) (hs : st.pick ls bs = st') (hk : K st') : AT P cx ops ps n E st K :=
 AT.done ls bs st' (by rw [zEf ht]; exact hr) hs hk
def zKF (st : St) (b : Bool) (p : Pin) : Option SV := bif b then lk st.s p.d else some (.tup [])
def zFe (T : Nat → Option TI) (st : St) (b : Bool) (p : Pin) : Option SV := bif b then (match T p.t with
 | none => none
 | some i => (match lk st.s p.x with
  | some (.adr r q m o) => (match lk st.s p.d with
   | some (.ref _ _ _ _ _ _) => bif !q.isEmpty && (zCD st r q m o i.size).isSome then some (.ref r q m o i.size i.ag) else none
   | some (.val _ cs) => (match zAj cs with
    | some _ => (match adS st (.tmp p.x) with
     | some s => bif ((s.e.drop s.o).take i.size).length == i.size && !s.r.eqb (.slot p.d) && zb st p.d then some (.val i.ag ((s.e.drop s.o).take i.size)) else none
     | none => none)
    | none => none)
   | _ => none)
  | _ => none)) else some (.tup [])
theorem zNY (st : St) (l : Array Bool) (p : Pin) : zHa st l p = zKF st (p.live l) p := rfl
theorem zLM (T : Nat → Option TI) (st : St) (l : Array Bool) (p : Pin) : zDT T st l p = zFe T st (p.live l) p := rfl
def zJc (ops : Array Oper) (t : Tab) (ps : List Pin) (m : Nat) (i : Nat) : Bool := match ops[i]? with
 | some o => zEq t.sz m ps o.dst && (match o.guard with
  | some (j,_) => Nat.ble j i
  | none => true)
 | none => false
def AM1 (P : Program) (cx : Cx) (T : Nat → Option TI) (ops : Array Oper) (t : Tab) (ps : List Pin) (n : Nat) (E : List Nat) (st : St) (K : St → Prop) (i : Nat) : Prop :=
 zJc ops t ps (qI E) i = true ∧ LAt P cx (takeA ops (i + 1)) i st (fun st' => (ps.map (fun p => zKF st' (J4 t.sz (qI (i :: E)) p) p) = ps.map (fun p => zFe T st' (J4 t.sz (qI (i :: E)) p) p) ∧ (ps.all fun p => (zFe T st' (J4 t.sz (qI (i :: E)) p) p).isSome) = true) ∧ AT P cx ops ps n (i :: E) st' K)
theorem zEz {P : Program} {cx : Cx} {T : Nat → Option TI} {ops : Array Oper} {t : Tab} (ht : za ops t = true) {ps : List Pin} {n : Nat} {E : List Nat} {st : St} {K : St → Prop} {i : Nat} (h : AM1 P cx T ops t ps n E st K i) : AT1 P cx T ops ps n E st K i := by
 obtain ⟨h1,h2⟩ := h
 refine ⟨?_,?_⟩
 ·unfold zJc at h1
  unfold zJl
  rw [← zCk ht] at h1
  simp only [← zLA] at h1
  exact h1
 ·rw [← zCk ht] at h2
  have e1 : ∀ st' : St,(fun p => zKF st' (J4 ops.size (qI (i :: E)) p) p) = zHa st' (lsd ops (i :: E)) := fun st' => by funext p; rw [zNY,zFc]
  have e2 : ∀ st' : St,(fun p => zFe T st' (J4 ops.size (qI (i :: E)) p) p) = zDT T st' (lsd ops (i :: E)) := fun st' => by funext p; rw [zLM,zFc]
  have e3 : ∀ st' : St,(fun p => (zFe T st' (J4 ops.size (qI (i :: E)) p) p).isSome) = fun p => (zDT T st' (lsd ops (i :: E)) p).isSome := fun st' => by funext p; rw [zLM,zFc]
  simp only [e1,e2,e3] at h2
  exact h2
theorem mB1 {P : Program} {cx : Cx} {T : Nat → Option TI} (hT : TOk P T) {ops : Array Oper} {t : Tab} (ht : za ops t = true) {ps : List Pin} {n : Nat} {E : List Nat} {st : St} {K : St → Prop} (i : Nat) (hr : zDI t (qI E) = [i]) (hb : zJc ops t ps (qI E) i = true)
  (h : LAt P cx (takeA ops (i + 1)) i st (fun st' => (ps.map (fun p => zKF st' (J4 t.sz (qI (i :: E)) p) p) = ps.map (fun p => zFe T st' (J4 t.sz (qI (i :: E)) p) p) ∧ (ps.all fun p => (zFe T st' (J4 t.sz (qI (i :: E)) p) p).isSome) = true) ∧ AT P cx ops ps n (i :: E) st' K)) : AT P cx ops ps (n + 1) E st K := by
 have := zEz ht ⟨hb,h⟩
 exact AT.big1 hT i (by rw [zEf ht]; exact hr) this.1 this.2
theorem mB2 {P : Program} {cx : Cx} {T : Nat → Option TI} (hT : TOk P T) {ops : Array Oper} {t : Tab} (ht : za ops t = true) {ps : List Pin} {n : Nat} {E : List Nat} {st : St} {K : St → Prop} (i j : Nat) (hr : zDI t (qI E) = [i,j]) (h1 : AM1 P cx T ops t ps n E st K i) (h2 : AM1 P cx T ops t ps n E st K j) : AT P cx ops ps (n + 1) E st K :=
 AT.big2 hT i j (by rw [zEf ht]; exact hr) (zEz ht h1) (zEz ht h2)
theorem mB3 {P : Program} {cx : Cx} {T : Nat → Option TI} (hT : TOk P T) {ops : Array Oper} {t : Tab} (ht : za ops t = true) {ps : List Pin} {n : Nat} {E : List Nat} {st : St} {K : St → Prop} (i j k : Nat) (hr : zDI t (qI E) = [i,j,k]) (h1 : AM1 P cx T ops t ps n E st K i) (h2 : AM1 P cx T ops t ps n E st K j) (h3 : AM1 P cx T ops t ps n E st K k) : AT P cx ops ps (n + 1) E st K :=
 AT.big3 hT i j k (by rw [zEf ht]; exact hr) (zEz ht h1) (zEz ht h2) (zEz ht h3)
end Go.TL
