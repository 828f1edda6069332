import Derived.Test.YtajadnlejdpceaaTlU9
set_option linter.unusedVariables false
namespace Go.TL
open Go
def zr : List Nat → Nat
 | [] => 0
 | i :: E => Nat.lor (zr E) (2 ^ i)
theorem zER (a b i : Nat) : (Nat.lor a b).testBit i = (a.testBit i || b.testBit i) := Nat.testBit_or a b i
theorem zCe (E : List Nat) (i : Nat) : (zr E).testBit i = decide (i ∈ E) := by
 induction E with
 | nil => simp [zr]
 | cons j E ih =>
  rw [zr,zER,ih,Nat.testBit_two_pow]
  by_cases h : j = i
  ·subst h; simp
  ·have : ¬ i = j := fun e => h e.symm
   simp [h,this]
structure Tab where
 sz : Nat
 A : List Nat
 F : List Nat
 W : List Nat
def zEG (o : Oper) : List Nat := (o.after.toList.filter fun e => Region.binds .any e).map (·.on)
theorem zEH {o : Oper} {i : Nat} : i ∈ zEG o ↔ ∃ e ∈ o.after,Region.binds .any e = true ∧ e.on = i := by
 unfold zEG
 simp only [List.mem_map,List.mem_filter,Array.mem_toList_iff]
 constructor
 ·rintro ⟨e,⟨h1,h2⟩,h3⟩; exact ⟨e,h1,h2,h3⟩
 ·rintro ⟨e,h1,h2,h3⟩; exact ⟨e,⟨h1,h2⟩,h3⟩
def wOf (W : List Nat) : List Nat → Nat
 | [] => 0
 | e :: L => Nat.lor (wOf W L) (W.getD e 0)
theorem zLm (W L : List Nat) (i : Nat) (h : (wOf W L).testBit i = true) : ∃ e ∈ L,(W.getD e 0).testBit i = true := by
 induction L with
 | nil => simp [wOf] at h
 | cons e L ih =>
  rw [wOf,zER,Bool.or_eq_true] at h
  rcases h with h | h
  ·obtain ⟨e',h1,h2⟩ := ih h; exact ⟨e',List.mem_cons_of_mem _ h1,h2⟩
  ·exact ⟨e,List.mem_cons_self,h⟩
def zEB (ops : Array Oper) (t : Tab) (k : Nat) (o : Oper) : Bool :=
 Nat.beq (t.A.getD k 0) (zr (zEG o)) && ((zEG o).all (fun e => Nat.blt e k) && (Nat.beq (t.W.getD k 0) (Nat.lor (zr (zEG o)) (wOf t.W (zEG o))) &&
 (List.range t.sz).all fun j => (t.F.getD k 0).testBit j || (j == k || match ops[j]? with | some oj => oj.after.any (fun e => Region.binds .any e && e.on == k) || o.apart ops oj | none => true)))
def zk (ops : Array Oper) (t : Tab) : Bool := Nat.beq ops.size t.sz && (Region.noSelect ops && (List.range t.sz).all fun k => match ops[k]? with | some o => zEB ops t k o | none => false)
theorem zBf {ops : Array Oper} {t : Tab} (h : zk ops t = true) : ops.size = t.sz := by
 unfold zk at h; rw [Bool.and_eq_true] at h; exact Nat.eq_of_beq_eq_true h.1
theorem zFh {ops : Array Oper} {t : Tab} (h : zk ops t = true) {k : Nat} {o : Oper} (ho : ops[k]? = some o) : zEB ops t k o = true := by
 have hs := zBf h
 unfold zk at h
 rw [Bool.and_eq_true,Bool.and_eq_true,List.all_eq_true] at h
 have := h.2.2 k (List.mem_range.2 (by rw [← hs]; exact (Array.getElem?_eq_some_iff.1 ho).1))
 rw [ho] at this
 exact this
theorem zNB {ops : Array Oper} {t : Tab} (h : zk ops t = true) {k : Nat} {o : Oper} (ho : ops[k]? = some o) : t.A.getD k 0 = zr (zEG o) := by
 have := zFh h ho
 unfold zEB at this
 rw [Bool.and_eq_true] at this
 exact Nat.eq_of_beq_eq_true this.1
theorem zJT {ops : Array Oper} {t : Tab} (h : zk ops t = true) {k : Nat} {o : Oper} (ho : ops[k]? = some o) {e : Nat} (he : e ∈ zEG o) : e < k := by
 have := zFh h ho
 unfold zEB at this
 rw [Bool.and_eq_true,Bool.and_eq_true,List.all_eq_true] at this
 exact Nat.le_of_ble_eq_true (this.2.1 e he)
theorem zLu {ops : Array Oper} {t : Tab} (h : zk ops t = true) : ∀ (n k i : Nat),k < n → k < ops.size → (t.W.getD k 0).testBit i = true → zEE ops n k i = true
 | 0,k,i,hk,_,_ => by omega
 | n + 1,k,i,hk,hks,hi => by
  have ho : ops[k]? = some ops[k] := Array.getElem?_eq_getElem hks
  have hr := zFh h ho
  unfold zEB at hr
  rw [Bool.and_eq_true,Bool.and_eq_true,Bool.and_eq_true] at hr
  rw [Nat.eq_of_beq_eq_true hr.2.2.1,zER,Bool.or_eq_true] at hi
  unfold zEE
  rw [ho]
  simp only
  rw [Array.any_eq_true']
  rcases hi with hi | hi
  ·rw [zCe,decide_eq_true_eq] at hi
   obtain ⟨e,h1,h2,h3⟩ := zEH.1 hi
   exact ⟨e,h1,by rw [h2,h3]; simp⟩
  ·obtain ⟨e',h1,h2⟩ := zLm _ _ _ hi
   have hlt := zJT h ho h1
   obtain ⟨e,g1,g2,rfl⟩ := zEH.1 h1
   refine ⟨e,g1,?_⟩
   rw [g2,zLu h n e.on i (by omega) (by omega) h2]
   simp
theorem zI2 (ops : Array Oper) (E : List Nat) : (lsd ops E).size = ops.size := by
 unfold lsd
 induction E with
 | nil => simp
 | cons j E ih => simp only [List.foldr_cons,Array.size_setIfInBounds]; exact ih
theorem zAt {ops : Array Oper} {i : Nat} (h : i < ops.size) (d : Bool) : ∀ E : List Nat,(lsd ops E).getD i d = (zr E).testBit i
 | [] => by
  unfold lsd zr
  simp [Array.getD,h]
 | j :: E => by
  have ih := zAt h d E
  have hs := zI2 ops E
  have : lsd ops (j :: E) = (lsd ops E).setIfInBounds j true := rfl
  rw [this,zr,zER,Nat.testBit_two_pow,← ih]
  by_cases e : j = i
  ·subst e
   simp [Array.getD_eq_getD_getElem?,hs,h]
  ·simp [Array.getD_eq_getD_getElem?,e]
theorem zMA {ops : Array Oper} {i : Nat} (h : ops.size ≤ i) (d : Bool) (E : List Nat) : (lsd ops E).getD i d = d := by
 rw [Array.getD_eq_getD_getElem?,Array.getElem?_eq_none (by rw [zI2]; exact h)]; rfl
def zGd (a m : Nat) : Bool := Nat.beq (Nat.land a m) a
theorem zJR {a m : Nat} : zGd a m = true ↔ ∀ i,a.testBit i = true → m.testBit i = true := by
 unfold zGd
 constructor
 ·intro h i hi
  have h := Nat.eq_of_beq_eq_true h
  have : (Nat.land a m).testBit i = a.testBit i := by rw [h]
  have h2 : (Nat.land a m).testBit i = (a.testBit i && m.testBit i) := Nat.testBit_and a m i
  rw [h2,hi] at this
  simpa using this
 ·intro h
  have : Nat.land a m = a := by
   apply Nat.eq_of_testBit_eq
   intro i
   have h2 : (Nat.land a m).testBit i = (a.testBit i && m.testBit i) := Nat.testBit_and a m i
   rw [h2]
   cases hi : a.testBit i with
   | false => rfl
   | true => rw [h i hi]; rfl
  rw [this]; exact Nat.beq_refl a
theorem zE1 {ops : Array Oper} {t : Tab} (ht : zk ops t = true) {k : Nat} {o : Oper} (ho : ops[k]? = some o) (E : List Nat) : (∀ e ∈ o.after,Region.binds .any e = true → (lsd ops E).getD e.on false = true) ↔ zGd (t.A.getD k 0) (zr E) = true := by
 have hk : k < ops.size := (Array.getElem?_eq_some_iff.1 ho).1
 rw [zJR,zNB ht ho]
 constructor
 ·intro h i hi
  rw [zCe,decide_eq_true_eq] at hi
  have hlt := zJT ht ho hi
  obtain ⟨e,h1,h2,rfl⟩ := zEH.1 hi
  rw [← zAt (show e.on < ops.size by omega) false E]
  exact h e h1 h2
 ·intro h e h1 h2
  have hm : e.on ∈ zEG o := zEH.2 ⟨e,h1,h2,rfl⟩
  have hlt := zJT ht ho hm
  rw [zAt (show e.on < ops.size by omega) false E]
  exact h _ (by rw [zCe]; simpa using hm)
def okM (t : Tab) (m : Nat) (E : List Nat) (ps : List Pin) (i : Nat) (D : List Nat) : Bool :=
 Nat.blt i t.sz && (!m.testBit i && (zGd (t.A.getD i 0) m && (E.all (fun k => zGd (t.A.getD k 0) m) && (zGd (t.F.getD i 0) m && (ps.all (fun p => !p.D.contains i) && D.all fun k => !(k == i) && (Nat.blt k t.sz && (t.W.getD k 0).testBit i))))))
theorem zK2 {ops : Array Oper} {t : Tab} (ht : zk ops t = true) {E : List Nat} {ps : List Pin} {i : Nat} {D : List Nat} (h : okM t (zr E) E ps i D = true) : okE ops ps E i D = true := by
 have hs := zBf ht
 unfold okM at h
 simp only [Bool.and_eq_true,Bool.not_eq_true',List.all_eq_true] at h
 obtain ⟨h1,h2,h3,h4,h5,h6,h7⟩ := h
 have hi : i < ops.size := by rw [hs]; exact Nat.le_of_ble_eq_true h1
 have ho : ops[i]? = some ops[i] := Array.getElem?_eq_getElem hi
 unfold okE
 simp only [Bool.and_eq_true]
 refine ⟨⟨⟨⟨⟨?_,?_⟩,?_⟩,?_⟩,?_⟩,?_⟩
 ·unfold zk at ht
  rw [Bool.and_eq_true,Bool.and_eq_true] at ht
  exact ht.2.1
 ·unfold Region.free
  rw [ho]
  simp only [List.all_eq_true,List.mem_range]
  intro j hj
  have hr := zFh ht ho
  unfold zEB at hr
  rw [Bool.and_eq_true,Bool.and_eq_true,Bool.and_eq_true] at hr
  have hj2 := List.all_eq_true.1 hr.2.2.2 j (List.mem_range.2 (by omega))
  rw [Bool.or_eq_true,Bool.or_eq_true] at hj2
  rcases hj2 with hj2 | hj2 | hj2
  ·have := zJR.1 h5 j hj2
   rw [zAt hj true E,this]
   simp
  ·rw [hj2]; rfl
  ·simp only [Bool.or_eq_true]
   right
   exact hj2
 ·rw [List.contains_iff_mem]
  refine mem_ready.2 ⟨by rw [zAt hi true E]; exact h2,ops[i],ho,(zE1 ht ho E).2 h3⟩
 ·unfold clB
  rw [List.all_eq_true]
  intro k hk
  have hk : k < ops.size := List.mem_range.1 hk
  have hok : ops[k]? = some ops[k] := Array.getElem?_eq_getElem hk
  cases hl : (lsd ops E).getD k false with
  | false => rfl
  | true =>
   rw [zAt hk false E,zCe,decide_eq_true_eq] at hl
   rw [hok]
   simp only [Bool.not_true,Bool.false_or,Array.all_eq_true_iff_forall_mem,Bool.or_eq_true,Bool.not_eq_true']
   intro e he
   cases hb : Region.binds .any e with
   | false => exact .inl rfl
   | true => exact .inr ((zE1 ht hok E).2 (h4 k hl) e he hb)
 ·rw [List.all_eq_true]
  intro p hp
  rw [h6 p hp]; rfl
 ·rw [List.all_eq_true]
  intro k hk
  obtain ⟨g1,g2,g3⟩ := h7 k hk
  rw [g1,Bool.not_false,Bool.true_and]
  have hlt : k < ops.size := by rw [hs]; exact Nat.le_of_ble_eq_true g2
  exact zLu ht _ _ _ hlt hlt g3
def JV (sz m : Nat) (p : Pin) : Bool := p.D.all fun k => !(Nat.blt k sz && m.testBit k)
theorem zEQ (ops : Array Oper) (E : List Nat) (p : Pin) : p.live (lsd ops E) = JV ops.size (zr E) p := by
 unfold Pin.live JV
 congr 1
 funext k
 by_cases h : k < ops.size
 ·rw [zAt h false E,show Nat.blt k ops.size = true from Nat.ble_eq_true_of_le h]; rfl
 ·rw [zMA (by omega) false E]
  have : Nat.blt k ops.size = false := by
   cases hb : Nat.blt k ops.size with
   | false => rfl
   | true => exact absurd (Nat.le_of_ble_eq_true hb) h
  rw [this]; rfl
def zDc (sz m : Nat) (ps : List Pin) (d : Option Nat) : Bool := ps.all fun p => !JV sz m p || (d != some p.x && d != some p.d)
theorem zJs (ops : Array Oper) (E : List Nat) (ps : List Pin) (d : Option Nat) : YX ps (lsd ops E) d = zDc ops.size (zr E) ps d := by
 unfold YX zDc
 congr 1
 funext p
 rw [zEQ]
theorem oM {ops : Array Oper} {t : Tab} (ht : zk ops t = true) {E : List Nat} {ps : List Pin} {i : Nat} {D : List Nat} (h : okM t (zr E) E ps i D = true) : okE ops ps E i D = true := zK2 ht h
theorem dM {ops : Array Oper} {t : Tab} (ht : zk ops t = true) {E : List Nat} {ps : List Pin} {d : Option Nat} (h : zDc t.sz (zr E) ps d = true) : YX ps (lsd ops E) d = true := by rw [zJs,zBf ht]; exact h
def zKo (T : Nat → Option TI) (ops : Array Oper) (ps : List Pin) (D : List Nat) (st : St) (o : Oper) : Option (List Pin × St) := match gdK ops st o.guard with
  | none => none
  | some false => (match D with
   | [] => (match o.dst with
    | none => some (ps,st)
    | some d => bif zV st d then some (ps,st.forget (some d)) else none)
   | _ => none)
  | some true => (match o.dst with
   | none => none
   | some d => bif zV st d then (match o.op with
    | .load t (.tmp x) => (match T t with
     | none => none
     | some ti => (match lk st.s x with
      | some (.fad cs0) => (match D with
       | [] => bif (cs0.take ti.size).length == ti.size then some (ps,st.put d (.val ti.ag (cs0.take ti.size))) else none
       | _ => none)
      | _ => (match adS st (.tmp x) with
       | some s => bif ((s.e.drop s.o).take ti.size).length == ti.size && !s.r.eqb (.slot d) && !(d == x) then some (⟨D,t,x,d⟩ :: ps,st.put d (ldV ti s ((s.e.drop s.o).take ti.size))) else none
       | none => none)))
    | op => (match D with
     | [] => bif zHA T st op then (match zBH T st op o.type (some d) with
      | some st' => some (ps,st')
      | none => none) else none
     | _ => none)) else none)
theorem zKq (T : Nat → Option TI) (ops : Array Oper) (ps : List Pin) (E : List Nat) (i : Nat) (D : List Nat) (st : St) : zE3 T ops ps E i D st = match ops[i]? with
 | none => none
 | some o => bif okE ops ps E i D && YX ps (lsd ops E) o.dst then zKo T ops ps D st o else none := rfl
def zIs (T : Nat → Option TI) (ops : Array Oper) (t : Tab) (ps : List Pin) (m : Nat) (E : List Nat) (i : Nat) (D : List Nat) (st : St) : Option (List Pin × St) := match ops[i]? with
 | none => none
 | some o => bif okM t m E ps i D && zDc t.sz m ps o.dst then zKo T ops ps D st o else none
theorem zKp {T : Nat → Option TI} {ops : Array Oper} {t : Tab} (ht : zk ops t = true) {ps : List Pin} {E : List Nat} {i : Nat} {D : List Nat} {st : St} {x : List Pin × St} (h : zIs T ops t ps (zr E) E i D st = some x) : zE3 T ops ps E i D st = some x := by
 rw [zKq]
 unfold zIs at h
 cases ho : ops[i]? with
 | none => rw [ho] at h; cases h
 | some o =>
  rw [ho] at h
  simp only at h ⊢
  cases hc : (okM t (zr E) E ps i D && zDc t.sz (zr E) ps o.dst) with
  | false => rw [hc] at h; cases h
  | true =>
   rw [hc] at h
   rw [Bool.and_eq_true] at hc
   rw [zK2 ht hc.1,dM ht hc.2]
   exact h
def zDh (T : Nat → Option TI) (ops : Array Oper) (t : Tab) : List (Nat × List Nat) → List Pin → List Nat → Nat → St → Option (List Pin × List Nat × St)
 | [],ps,E,m,st => some (ps,E,st)
 | (i,D) :: l,ps,E,m,st => match zIs T ops t ps m E i D st with
  | some (ps',st') => zDh T ops t l ps' (i :: E) (Nat.lor m (2 ^ i)) st'
  | none => none
theorem zJ4 {T : Nat → Option TI} {ops : Array Oper} {t : Tab} (ht : zk ops t = true) : ∀ (l : List (Nat × List Nat)) (ps : List Pin) (E : List Nat) (st : St) (x : List Pin × List Nat × St),zDh T ops t l ps E (zr E) st = some x → zA9 T ops l ps E st = some x
 | [],ps,E,st,x,h => h
 | (i,D) :: l,ps,E,st,x,h => by
  simp only [zDh] at h
  simp only [zA9]
  split at h
  ·rename_i ps' st' h1
   rw [zKp ht h1]
   exact zJ4 ht l ps' (i :: E) st' x h
  ·cases h
def zJG (T : Nat → Option TI) (ops : Array Oper) (t : Tab) (l : List (Nat × List Nat)) (ps : List Pin) (E : List Nat) (st : St) : St := match zDh T ops t l ps E (zr E) st with
 | some x => x.2.2
 | none => ⟨0,0,[],[]⟩
theorem mU {P : Program} {cx : Cx} {T : Nat → Option TI} (hT : TOk P T) {ops : Array Oper} {t : Tab} (ht : zk ops t = true) {K : St → Prop} {m : Nat} {ps : List Pin} {E : List Nat} {st : St} (l : List (Nat × List Nat)) (n : Nat) (ps' : List Pin) (E' : List Nat) (hn : n + l.length = m) (h : (zDh T ops t l ps E (zr E) st).map (fun x => (x.1,x.2.1)) = some (ps',E'))
  (hk : ∀ cx',AT P cx' ops ps' n E' (zJG T ops t l ps E st) K) : AT P cx ops ps m E st K := by
 unfold zJG at hk
 cases hc : zDh T ops t l ps E (zr E) st with
 | none => rw [hc] at h; cases h
 | some x =>
  obtain ⟨ps1,E1,st1⟩ := x
  rw [hc] at h hk
  cases h
  exact AT.run hT l n _ _ st1 hn (zJ4 ht l ps E st _ hc) hk
def zB9 (t : Tab) (m : Nat) : List Nat := (List.range t.sz).filter fun i => !m.testBit i && zGd (t.A.getD i 0) m
theorem zDR {ops : Array Oper} {t : Tab} (ht : zk ops t = true) (E : List Nat) : Region.ready .any ops (lsd ops E) = zB9 t (zr E) := by
 unfold Region.ready zB9
 rw [← zBf ht]
 refine List.filter_congr fun i hi => ?_
 have hi : i < ops.size := List.mem_range.1 hi
 have ho : ops[i]? = some ops[i] := Array.getElem?_eq_getElem hi
 rw [zAt hi true E,ho]
 congr 1
 rw [Bool.eq_iff_iff,← zE1 ht ho E]
 simp only [Option.map_some,Option.getD_some,Array.all_eq_true_iff_forall_mem,Bool.or_eq_true,Bool.not_eq_true']
 constructor
 ·intro h e he hb
  exact (h e he).resolve_left (by rw [hb]; simp)
 ·intro h e he
  cases hb : Region.binds .any e with
  | false => exact .inl rfl
  | true => exact .inr (h e he hb)
theorem mD {P : Program} {cx : Cx} {ops : Array Oper} {t : Tab} (ht : zk ops t = true) {ps : List Pin} {n : Nat} {E : List Nat} {st : St} {K : St → Prop} (ls bs : List Nat) (st' : St) (hr : zB9 t (zr E) = []) (hs : st.pick ls bs = st') (hk : K st') : AT P cx ops ps n E st K :=
 AT.done ls bs st' (by rw [zDR ht]; exact hr) hs hk
def zJC (st : St) (b : Bool) (p : Pin) : Option SV := bif b then lk st.s p.d else some (.tup [])
def zES (T : Nat → Option TI) (st : St) (b : Bool) (p : Pin) : Option SV := bif b then (match T p.t with
 | none => none
 | some i => (match lk st.s p.x with
  | some (.adr r q m o) => (match lk st.s p.d with
   | some (.ref _ _ _ _ _ _) => bif !q.isEmpty && (zA7 st r q m o i.size).isSome then some (.ref r q m o i.size i.ag) else none
   | some (.val _ cs) => (match Jz cs with
    | some _ => (match adS st (.tmp p.x) with
     | some s => bif ((s.e.drop s.o).take i.size).length == i.size && !s.r.eqb (.slot p.d) && zV st p.d then some (.val i.ag ((s.e.drop s.o).take i.size)) else none
     | none => none)
    | none => none)
   | _ => none)
  | _ => none)) else some (.tup [])
theorem zMF (st : St) (l : Array Bool) (p : Pin) : zGR st l p = zJC st (p.live l) p := rfl
theorem zJ2 (T : Nat → Option TI) (st : St) (l : Array Bool) (p : Pin) : zCM T st l p = zES T st (p.live l) p := rfl
def zIe (ops : Array Oper) (t : Tab) (ps : List Pin) (m : Nat) (i : Nat) : Bool := match ops[i]? with
 | some o => zDc t.sz m ps o.dst && (match o.guard with
  | some (j,_) => Nat.ble j i
  | none => true)
 | none => false
def AM1 (P : Program) (cx : Cx) (T : Nat → Option TI) (ops : Array Oper) (t : Tab) (ps : List Pin) (n : Nat) (E : List Nat) (st : St) (K : St → Prop) (i : Nat) : Prop :=
 zIe ops t ps (zr E) i = true ∧ LAt P cx (takeA ops (i + 1)) i st (fun st' => (ps.map (fun p => zJC st' (JV t.sz (zr (i :: E)) p) p) = ps.map (fun p => zES T st' (JV t.sz (zr (i :: E)) p) p) ∧ (ps.all fun p => (zES T st' (JV t.sz (zr (i :: E)) p) p).isSome) = true) ∧ AT P cx ops ps n (i :: E) st' K)
theorem zDm {P : Program} {cx : Cx} {T : Nat → Option TI} {ops : Array Oper} {t : Tab} (ht : zk ops t = true) {ps : List Pin} {n : Nat} {E : List Nat} {st : St} {K : St → Prop} {i : Nat} (h : AM1 P cx T ops t ps n E st K i) : AT1 P cx T ops ps n E st K i := by
 obtain ⟨h1,h2⟩ := h
 refine ⟨?_,?_⟩
 ·unfold zIe at h1
  unfold zIm
  rw [← zBf ht] at h1
  simp only [← zJs] at h1
  exact h1
 ·rw [← zBf ht] at h2
  have e1 : ∀ st' : St,(fun p => zJC st' (JV ops.size (zr (i :: E)) p) p) = zGR st' (lsd ops (i :: E)) := fun st' => by funext p; rw [zMF,zEQ]
  have e2 : ∀ st' : St,(fun p => zES T st' (JV ops.size (zr (i :: E)) p) p) = zCM T st' (lsd ops (i :: E)) := fun st' => by funext p; rw [zJ2,zEQ]
  have e3 : ∀ st' : St,(fun p => (zES T st' (JV ops.size (zr (i :: E)) p) p).isSome) = fun p => (zCM T st' (lsd ops (i :: E)) p).isSome := fun st' => by funext p; rw [zJ2,zEQ]
  simp only [e1,e2,e3] at h2
  exact h2
theorem mB1 {P : Program} {cx : Cx} {T : Nat → Option TI} (hT : TOk P T) {ops : Array Oper} {t : Tab} (ht : zk ops t = true) {ps : List Pin} {n : Nat} {E : List Nat} {st : St} {K : St → Prop} (i : Nat) (hr : zB9 t (zr E) = [i]) (hb : zIe ops t ps (zr E) i = true)
  (h : LAt P cx (takeA ops (i + 1)) i st (fun st' => (ps.map (fun p => zJC st' (JV t.sz (zr (i :: E)) p) p) = ps.map (fun p => zES T st' (JV t.sz (zr (i :: E)) p) p) ∧ (ps.all fun p => (zES T st' (JV t.sz (zr (i :: E)) p) p).isSome) = true) ∧ AT P cx ops ps n (i :: E) st' K)) : AT P cx ops ps (n + 1) E st K := by
 have := zDm ht ⟨hb,h⟩
 exact AT.big1 hT i (by rw [zDR ht]; exact hr) this.1 this.2
theorem mB2 {P : Program} {cx : Cx} {T : Nat → Option TI} (hT : TOk P T) {ops : Array Oper} {t : Tab} (ht : zk ops t = true) {ps : List Pin} {n : Nat} {E : List Nat} {st : St} {K : St → Prop} (i j : Nat) (hr : zB9 t (zr E) = [i,j]) (h1 : AM1 P cx T ops t ps n E st K i) (h2 : AM1 P cx T ops t ps n E st K j) : AT P cx ops ps (n + 1) E st K :=
 AT.big2 hT i j (by rw [zDR ht]; exact hr) (zDm ht h1) (zDm ht h2)
theorem mB3 {P : Program} {cx : Cx} {T : Nat → Option TI} (hT : TOk P T) {ops : Array Oper} {t : Tab} (ht : zk ops t = true) {ps : List Pin} {n : Nat} {E : List Nat} {st : St} {K : St → Prop} (i j k : Nat) (hr : zB9 t (zr E) = [i,j,k]) (h1 : AM1 P cx T ops t ps n E st K i) (h2 : AM1 P cx T ops t ps n E st K j) (h3 : AM1 P cx T ops t ps n E st K k) : AT P cx ops ps (n + 1) E st K :=
 AT.big3 hT i j k (by rw [zDR ht]; exact hr) (zDm ht h1) (zDm ht h2) (zDm ht h3)
end Go.TL
