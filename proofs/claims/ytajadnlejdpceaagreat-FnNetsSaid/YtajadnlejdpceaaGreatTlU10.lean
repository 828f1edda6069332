import Derived.Test.YtajadnlejdpceaaGreatTlU9
set_option linter.unusedVariables false
namespace Go.TL
open Go
def qM : List Nat → Nat
 | [] => 0
 | i :: E => Nat.lor (qM E) (2 ^ i)
theorem zGe (a b i : Nat) : (Nat.lor a b).testBit i = (a.testBit i || b.testBit i) := Nat.testBit_or a b i
theorem zEm (E : List Nat) (i : Nat) : (qM E).testBit i = decide (i ∈ E) := by
 induction E with
 | nil => simp [qM]
 | cons j E ih =>
  rw [qM,zGe,ih,Nat.testBit_two_pow]
  by_cases h : j = i
  ·subst h; simp
  ·have : ¬ i = j := fun e => h e.symm
   simp [h,this]
structure Tab where
 sz : Nat
 A : List Nat
 F : List Nat
 W : List Nat
def zGR (o : Oper) : List Nat := (o.after.toList.filter fun e => Region.binds .any e).map (·.on)
theorem zGS {o : Oper} {i : Nat} : i ∈ zGR o ↔ ∃ e ∈ o.after,Region.binds .any e = true ∧ e.on = i := by
 unfold zGR
 simp only [List.mem_map,List.mem_filter,Array.mem_toList_iff]
 constructor
 ·rintro ⟨e,⟨h1,h2⟩,h3⟩; exact ⟨e,h1,h2,h3⟩
 ·rintro ⟨e,h1,h2,h3⟩; exact ⟨e,⟨h1,h2⟩,h3⟩
def wOf (W : List Nat) : List Nat → Nat
 | [] => 0
 | e :: L => Nat.lor (wOf W L) (W.getD e 0)
theorem zOZ (W L : List Nat) (i : Nat) (h : (wOf W L).testBit i = true) : ∃ e ∈ L,(W.getD e 0).testBit i = true := by
 induction L with
 | nil => simp [wOf] at h
 | cons e L ih =>
  rw [wOf,zGe,Bool.or_eq_true] at h
  rcases h with h | h
  ·obtain ⟨e',h1,h2⟩ := ih h; exact ⟨e',List.mem_cons_of_mem _ h1,h2⟩
  ·exact ⟨e,List.mem_cons_self,h⟩
def zGK (ops : Array Oper) (t : Tab) (k : Nat) (o : Oper) : Bool :=
 Nat.beq (t.A.getD k 0) (qM (zGR o)) && ((zGR o).all (fun e => Nat.blt e k) && (Nat.beq (t.W.getD k 0) (Nat.lor (qM (zGR o)) (wOf t.W (zGR o))) &&
 (List.range t.sz).all fun j => (t.F.getD k 0).testBit j || (j == k || match ops[j]? with | some oj => oj.after.any (fun e => Region.binds .any e && e.on == k) || o.apart ops oj | none => true)))
def zg (ops : Array Oper) (t : Tab) : Bool := Nat.beq ops.size t.sz && (Region.noSelect ops && (List.range t.sz).all fun k => match ops[k]? with | some o => zGK ops t k o | none => false)
theorem zDc {ops : Array Oper} {t : Tab} (h : zg ops t = true) : ops.size = t.sz := by
 unfold zg at h; rw [Bool.and_eq_true] at h; exact Nat.eq_of_beq_eq_true h.1
theorem zHs {ops : Array Oper} {t : Tab} (h : zg ops t = true) {k : Nat} {o : Oper} (ho : ops[k]? = some o) : zGK ops t k o = true := by
 have hs := zDc h
 unfold zg at h
 rw [Bool.and_eq_true,Bool.and_eq_true,List.all_eq_true] at h
 have := h.2.2 k (List.mem_range.2 (by rw [← hs]; exact (Array.getElem?_eq_some_iff.1 ho).1))
 rw [ho] at this
 exact this
theorem zQG {ops : Array Oper} {t : Tab} (h : zg ops t = true) {k : Nat} {o : Oper} (ho : ops[k]? = some o) : t.A.getD k 0 = qM (zGR o) := by
 have := zHs h ho
 unfold zGK at this
 rw [Bool.and_eq_true] at this
 exact Nat.eq_of_beq_eq_true this.1
theorem zMB {ops : Array Oper} {t : Tab} (h : zg ops t = true) {k : Nat} {o : Oper} (ho : ops[k]? = some o) {e : Nat} (he : e ∈ zGR o) : e < k := by
 have := zHs h ho
 unfold zGK at this
 rw [Bool.and_eq_true,Bool.and_eq_true,List.all_eq_true] at this
 exact Nat.le_of_ble_eq_true (this.2.1 e he)
theorem zOg {ops : Array Oper} {t : Tab} (h : zg ops t = true) : ∀ (n k i : Nat),k < n → k < ops.size → (t.W.getD k 0).testBit i = true → zGM ops n k i = true
 | 0,k,i,hk,_,_ => by omega
 | n + 1,k,i,hk,hks,hi => by
  have ho : ops[k]? = some ops[k] := Array.getElem?_eq_getElem hks
  have hr := zHs h ho
  unfold zGK at hr
  rw [Bool.and_eq_true,Bool.and_eq_true,Bool.and_eq_true] at hr
  rw [Nat.eq_of_beq_eq_true hr.2.2.1,zGe,Bool.or_eq_true] at hi
  unfold zGM
  rw [ho]
  simp only
  rw [Array.any_eq_true']
  rcases hi with hi | hi
  ·rw [zEm,decide_eq_true_eq] at hi
   obtain ⟨e,h1,h2,h3⟩ := zGS.1 hi
   exact ⟨e,h1,by rw [h2,h3]; simp⟩
  ·obtain ⟨e',h1,h2⟩ := zOZ _ _ _ hi
   have hlt := zMB h ho h1
   obtain ⟨e,g1,g2,rfl⟩ := zGS.1 h1
   refine ⟨e,g1,?_⟩
   rw [g2,zOg h n e.on i (by omega) (by omega) h2]
   simp
theorem zLk (ops : Array Oper) (E : List Nat) : (lsd ops E).size = ops.size := by
 unfold lsd
 induction E with
 | nil => simp
 | cons j E ih => simp only [List.foldr_cons,Array.size_setIfInBounds]; exact ih
theorem zCd {ops : Array Oper} {i : Nat} (h : i < ops.size) (d : Bool) : ∀ E : List Nat,(lsd ops E).getD i d = (qM E).testBit i
 | [] => by
  unfold lsd qM
  simp [Array.getD,h]
 | j :: E => by
  have ih := zCd h d E
  have hs := zLk ops E
  have : lsd ops (j :: E) = (lsd ops E).setIfInBounds j true := rfl
  rw [this,qM,zGe,Nat.testBit_two_pow,← ih]
  by_cases e : j = i
  ·subst e
   simp [Array.getD_eq_getD_getElem?,hs,h]
  ·simp [Array.getD_eq_getD_getElem?,e]
theorem zOx {ops : Array Oper} {i : Nat} (h : ops.size ≤ i) (d : Bool) (E : List Nat) : (lsd ops E).getD i d = d := by
 rw [Array.getD_eq_getD_getElem?,Array.getElem?_eq_none (by rw [zLk]; exact h)]; rfl
def zIw (a m : Nat) : Bool := Nat.beq (Nat.land a m) a
theorem zMA {a m : Nat} : zIw a m = true ↔ ∀ i,a.testBit i = true → m.testBit i = true := by
 unfold zIw
 constructor
 ·intro h i hi
  have h := Nat.eq_of_beq_eq_true h
  have : (Nat.land a m).testBit i = a.testBit i := by rw [h]
  have h2 : (Nat.land a m).testBit i = (a.testBit i && m.testBit i) := Nat.testBit_and a m i
  rw [h2,hi] at this
  simpa using this
 ·intro h
  have : Nat.land a m = a := by
   apply Nat.eq_of_testBit_eq
   intro i
   have h2 : (Nat.land a m).testBit i = (a.testBit i && m.testBit i) := Nat.testBit_and a m i
   rw [h2]
   cases hi : a.testBit i with
   | false => rfl
   | true => rw [h i hi]; rfl
  rw [this]; exact Nat.beq_refl a
theorem zG8 {ops : Array Oper} {t : Tab} (ht : zg ops t = true) {k : Nat} {o : Oper} (ho : ops[k]? = some o) (E : List Nat) : (∀ e ∈ o.after,Region.binds .any e = true → (lsd ops E).getD e.on false = true) ↔ zIw (t.A.getD k 0) (qM E) = true := by
 have hk : k < ops.size := (Array.getElem?_eq_some_iff.1 ho).1
 rw [zMA,zQG ht ho]
 constructor
 ·intro h i hi
  rw [zEm,decide_eq_true_eq] at hi
  have hlt := zMB ht ho hi
  obtain ⟨e,h1,h2,rfl⟩ := zGS.1 hi
  rw [← zCd (show e.on < ops.size by omega) false E]
  exact h e h1 h2
 ·intro h e h1 h2
  have hm : e.on ∈ zGR o := zGS.2 ⟨e,h1,h2,rfl⟩
  have hlt := zMB ht ho hm
  rw [zCd (show e.on < ops.size by omega) false E]
  exact h _ (by rw [zEm]; simpa using hm)
def okM (t : Tab) (m : Nat) (E : List Nat) (ps : List Pin) (i : Nat) (D : List Nat) : Bool :=
 Nat.blt i t.sz && (!m.testBit i && (zIw (t.A.getD i 0) m && (E.all (fun k => zIw (t.A.getD k 0) m) && (zIw (t.F.getD i 0) m && (ps.all (fun p => !p.D.contains i) && D.all fun k => !(k == i) && (Nat.blt k t.sz && (t.W.getD k 0).testBit i))))))
theorem zNp {ops : Array Oper} {t : Tab} (ht : zg ops t = true) {E : List Nat} {ps : List Pin} {i : Nat} {D : List Nat} (h : okM t (qM E) E ps i D = true) : okE ops ps E i D = true := by
 have hs := zDc ht
 unfold okM at h
 simp only [Bool.and_eq_true,Bool.not_eq_true',List.all_eq_true] at h
 obtain ⟨h1,h2,h3,h4,h5,h6,h7⟩ := h
 have hi : i < ops.size := by rw [hs]; exact Nat.le_of_ble_eq_true h1
 have ho : ops[i]? = some ops[i] := Array.getElem?_eq_getElem hi
 unfold okE
 simp only [Bool.and_eq_true]
 refine ⟨⟨⟨⟨⟨?_,?_⟩,?_⟩,?_⟩,?_⟩,?_⟩
 ·unfold zg at ht
  rw [Bool.and_eq_true,Bool.and_eq_true] at ht
  exact ht.2.1
 ·unfold Region.free
  rw [ho]
  simp only [List.all_eq_true,List.mem_range]
  intro j hj
  have hr := zHs ht ho
  unfold zGK at hr
  rw [Bool.and_eq_true,Bool.and_eq_true,Bool.and_eq_true] at hr
  have hj2 := List.all_eq_true.1 hr.2.2.2 j (List.mem_range.2 (by omega))
  rw [Bool.or_eq_true,Bool.or_eq_true] at hj2
  rcases hj2 with hj2 | hj2 | hj2
  ·have := zMA.1 h5 j hj2
   rw [zCd hj true E,this]
   simp
  ·rw [hj2]; rfl
  ·simp only [Bool.or_eq_true]
   right
   exact hj2
 ·rw [List.contains_iff_mem]
  refine mem_ready.2 ⟨by rw [zCd hi true E]; exact h2,ops[i],ho,(zG8 ht ho E).2 h3⟩
 ·unfold clB
  rw [List.all_eq_true]
  intro k hk
  have hk : k < ops.size := List.mem_range.1 hk
  have hok : ops[k]? = some ops[k] := Array.getElem?_eq_getElem hk
  cases hl : (lsd ops E).getD k false with
  | false => rfl
  | true =>
   rw [zCd hk false E,zEm,decide_eq_true_eq] at hl
   rw [hok]
   simp only [Bool.not_true,Bool.false_or,Array.all_eq_true_iff_forall_mem,Bool.or_eq_true,Bool.not_eq_true']
   intro e he
   cases hb : Region.binds .any e with
   | false => exact .inl rfl
   | true => exact .inr ((zG8 ht hok E).2 (h4 k hl) e he hb)
 ·rw [List.all_eq_true]
  intro p hp
  rw [h6 p hp]; rfl
 ·rw [List.all_eq_true]
  intro k hk
  obtain ⟨g1,g2,g3⟩ := h7 k hk
  rw [g1,Bool.not_false,Bool.true_and]
  have hlt : k < ops.size := by rw [hs]; exact Nat.le_of_ble_eq_true g2
  exact zOg ht _ _ _ hlt hlt g3
def zAX (sz m : Nat) (p : Pin) : Bool := p.D.all fun k => !(Nat.blt k sz && m.testBit k)
theorem zGd (ops : Array Oper) (E : List Nat) (p : Pin) : p.live (lsd ops E) = zAX ops.size (qM E) p := by
 unfold Pin.live zAX
 congr 1
 funext k
 by_cases h : k < ops.size
 ·rw [zCd h false E,show Nat.blt k ops.size = true from Nat.ble_eq_true_of_le h]; rfl
 ·rw [zOx (by omega) false E]
  have : Nat.blt k ops.size = false := by
   cases hb : Nat.blt k ops.size with
   | false => rfl
   | true => exact absurd (Nat.le_of_ble_eq_true hb) h
  rw [this]; rfl
def zGU (sz m : Nat) (ps : List Pin) (d : Option Nat) : Bool := ps.all fun p => !zAX sz m p || (d != some p.x && d != some p.d)
theorem zMg (ops : Array Oper) (E : List Nat) (ps : List Pin) (d : Option Nat) : JS ps (lsd ops E) d = zGU ops.size (qM E) ps d := by
 unfold JS zGU
 congr 1
 funext p
 rw [zGd]
theorem oM {ops : Array Oper} {t : Tab} (ht : zg ops t = true) {E : List Nat} {ps : List Pin} {i : Nat} {D : List Nat} (h : okM t (qM E) E ps i D = true) : okE ops ps E i D = true := zNp ht h
theorem dM {ops : Array Oper} {t : Tab} (ht : zg ops t = true) {E : List Nat} {ps : List Pin} {d : Option Nat} (h : zGU t.sz (qM E) ps d = true) : JS ps (lsd ops E) d = true := by rw [zMg,zDc ht]; exact h
def zNZ (T : Nat → Option TI) (ops : Array Oper) (ps : List Pin) (D : List Nat) (st : St) (o : Oper) : Option (List Pin × St) := match gdK ops st o.guard with
  | none => none
  | some false => (match D with
   | [] => (match o.dst with
    | none => some (ps,st)
    | some d => bif zo st d then some (ps,st.forget (some d)) else none)
   | _ => none)
  | some true => (match o.dst with
   | none => none
   | some d => bif zo st d then (match o.op with
    | .load t (.tmp x) => (match T t with
     | none => none
     | some ti => (match lk st.s x with
      | some (.fad cs0) => (match D with
       | [] => bif (cs0.take ti.size).length == ti.size then some (ps,st.put d (.val ti.ag (cs0.take ti.size))) else none
       | _ => none)
      | _ => (match adS st (.tmp x) with
       | some s => bif ((s.e.drop s.o).take ti.size).length == ti.size && !s.r.eqb (.slot d) && !(d == x) then some (⟨D,t,x,d⟩ :: ps,st.put d (ldV ti s ((s.e.drop s.o).take ti.size))) else none
       | none => none)))
    | op => (match D with
     | [] => bif zJT T st op then (match zC9 T st op o.type (some d) with
      | some st' => some (ps,st')
      | none => none) else none
     | _ => none)) else none)
theorem zNb (T : Nat → Option TI) (ops : Array Oper) (ps : List Pin) (E : List Nat) (i : Nat) (D : List Nat) (st : St) : zHA T ops ps E i D st = match ops[i]? with
 | none => none
 | some o => bif okE ops ps E i D && JS ps (lsd ops E) o.dst then zNZ T ops ps D st o else none := rfl
def zLT (T : Nat → Option TI) (ops : Array Oper) (t : Tab) (ps : List Pin) (m : Nat) (E : List Nat) (i : Nat) (D : List Nat) (st : St) : Option (List Pin × St) := match ops[i]? with
 | none => none
 | some o => bif okM t m E ps i D && zGU t.sz m ps o.dst then zNZ T ops ps D st o else none
theorem zNa {T : Nat → Option TI} {ops : Array Oper} {t : Tab} (ht : zg ops t = true) {ps : List Pin} {E : List Nat} {i : Nat} {D : List Nat} {st : St} {x : List Pin × St} (h : zLT T ops t ps (qM E) E i D st = some x) : zHA T ops ps E i D st = some x := by
 rw [zNb]
 unfold zLT at h
 cases ho : ops[i]? with
 | none => rw [ho] at h; cases h
 | some o =>
  rw [ho] at h
  simp only at h ⊢
  cases hc : (okM t (qM E) E ps i D && zGU t.sz (qM E) ps o.dst) with
  | false => rw [hc] at h; cases h
  | true =>
   rw [hc] at h
   rw [Bool.and_eq_true] at hc
   rw [zNp ht hc.1,dM ht hc.2]
   exact h
def zFw (T : Nat → Option TI) (ops : Array Oper) (t : Tab) : List (Nat × List Nat) → List Pin → List Nat → Nat → St → Option (List Pin × List Nat × St)
 | [],ps,E,m,st => some (ps,E,st)
 | (i,D) :: l,ps,E,m,st => match zLT T ops t ps m E i D st with
  | some (ps',st') => zFw T ops t l ps' (i :: E) (Nat.lor m (2 ^ i)) st'
  | none => none
theorem zMr {T : Nat → Option TI} {ops : Array Oper} {t : Tab} (ht : zg ops t = true) : ∀ (l : List (Nat × List Nat)) (ps : List Pin) (E : List Nat) (st : St) (x : List Pin × List Nat × St),zFw T ops t l ps E (qM E) st = some x → zCz T ops l ps E st = some x
 | [],ps,E,st,x,h => h
 | (i,D) :: l,ps,E,st,x,h => by
  simp only [zFw] at h
  simp only [zCz]
  split at h
  ·rename_i ps' st' h1
   rw [zNa ht h1]
   exact zMr ht l ps' (i :: E) st' x h
  ·cases h
def zLx (T : Nat → Option TI) (ops : Array Oper) (t : Tab) (l : List (Nat × List Nat)) (ps : List Pin) (E : List Nat) (st : St) : St := match zFw T ops t l ps E (qM E) st with
 | some x => x.2.2
 | none => ⟨0,0,[],[]⟩
theorem mU {P : Program} {cx : Cx} {T : Nat → Option TI} (hT : TOk P T) {ops : Array Oper} {t : Tab} (ht : zg ops t = true) {K : St → Prop} {m : Nat} {ps : List Pin} {E : List Nat} {st : St} (l : List (Nat × List Nat)) (n : Nat) (ps' : List Pin) (E' : List Nat) (hn : n + l.length = m) (h : (zFw T ops t l ps E (qM E) st).map (fun x => (x.1,x.2.1)) = some (ps',E'))
  (hk : ∀ cx',AT P cx' ops ps' n E' (zLx T ops t l ps E st) K) : AT P cx ops ps m E st K := by
 unfold zLx at hk
 cases hc : zFw T ops t l ps E (qM E) st with
 | none => rw [hc] at h; cases h
 | some x =>
  obtain ⟨ps1,E1,st1⟩ := x
  rw [hc] at h hk
  cases h
  exact AT.run hT l n _ _ st1 hn (zMr ht l ps E st _ hc) hk
def zD2 (t : Tab) (m : Nat) : List Nat := (List.range t.sz).filter fun i => !m.testBit i && zIw (t.A.getD i 0) m
theorem zFc {ops : Array Oper} {t : Tab} (ht : zg ops t = true) (E : List Nat) : Region.ready .any ops (lsd ops E) = zD2 t (qM E) := by
 unfold Region.ready zD2
 rw [← zDc ht]
 refine List.filter_congr fun i hi => ?_
 have hi : i < ops.size := List.mem_range.1 hi
 have ho : ops[i]? = some ops[i] := Array.getElem?_eq_getElem hi
 rw [zCd hi true E,ho]
 congr 1
 rw [Bool.eq_iff_iff,← zG8 ht ho E]
 simp only [Option.map_some,Option.getD_some,Array.all_eq_true_iff_forall_mem,Bool.or_eq_true,Bool.not_eq_true']
 constructor
 ·intro h e he hb
  exact (h e he).resolve_left (by rw [hb]; simp)
 ·intro h e he
  cases hb : Region.binds .any e with
  | false => exact .inl rfl
  | true => exact .inr (h e he hb)
theorem mD {P : Program} {cx : Cx} {ops : Array Oper} {t : Tab} (ht : zg ops t = true) {ps : List Pin} {n : Nat} {E : List Nat} {st : St} {K : St → Prop} (ls bs : List Nat) (st' : St) (hr : zD2 t (qM E) = []) (hs : st.pick ls bs = st') (hk : K st') : AT P cx ops ps n E st K :=
 AT.done ls bs st' (by rw [zFc ht]; exact hr) hs hk
def zLu (st : St) (b : Bool) (p : Pin) : Option SV := bif b then lk st.s p.d else some (.tup [])
def zGg (T : Nat → Option TI) (st : St) (b : Bool) (p : Pin) : Option SV := bif b then (match T p.t with
 | none => none
 | some i => (match lk st.s p.x with
  | some (.adr r q m o) => (match lk st.s p.d with
   | some (.ref _ _ _ _ _ _) => bif !q.isEmpty && (zCx st r q m o i.size).isSome then some (.ref r q m o i.size i.ag) else none
   | some (.val _ cs) => (match zBR cs with
    | some _ => (match adS st (.tmp p.x) with
     | some s => bif ((s.e.drop s.o).take i.size).length == i.size && !s.r.eqb (.slot p.d) && zo st p.d then some (.val i.ag ((s.e.drop s.o).take i.size)) else none
     | none => none)
    | none => none)
   | _ => none)
  | _ => none)) else some (.tup [])
theorem zO1 (st : St) (l : Array Bool) (p : Pin) : zIf st l p = zLu st (p.live l) p := rfl
theorem zMq (T : Nat → Option TI) (st : St) (l : Array Bool) (p : Pin) : zEM T st l p = zGg T st (p.live l) p := rfl
def zLH (ops : Array Oper) (t : Tab) (ps : List Pin) (m : Nat) (i : Nat) : Bool := match ops[i]? with
 | some o => zGU t.sz m ps o.dst && (match o.guard with
  | some (j,_) => Nat.ble j i
  | none => true)
 | none => false
def AM1 (P : Program) (cx : Cx) (T : Nat → Option TI) (ops : Array Oper) (t : Tab) (ps : List Pin) (n : Nat) (E : List Nat) (st : St) (K : St → Prop) (i : Nat) : Prop :=
 zLH ops t ps (qM E) i = true ∧ LAt P cx (takeA ops (i + 1)) i st (fun st' => (ps.map (fun p => zLu st' (zAX t.sz (qM (i :: E)) p) p) = ps.map (fun p => zGg T st' (zAX t.sz (qM (i :: E)) p) p) ∧ (ps.all fun p => (zGg T st' (zAX t.sz (qM (i :: E)) p) p).isSome) = true) ∧ AT P cx ops ps n (i :: E) st' K)
theorem zF0 {P : Program} {cx : Cx} {T : Nat → Option TI} {ops : Array Oper} {t : Tab} (ht : zg ops t = true) {ps : List Pin} {n : Nat} {E : List Nat} {st : St} {K : St → Prop} {i : Nat} (h : AM1 P cx T ops t ps n E st K i) : AT1 P cx T ops ps n E st K i := by
 obtain ⟨h1,h2⟩ := h
 refine ⟨?_,?_⟩
 ·unfold zLH at h1
  unfold zLN
  rw [← zDc ht] at h1
  simp only [← zMg] at h1
  exact h1
 ·rw [← zDc ht] at h2
  have e1 : ∀ st' : St,(fun p => zLu st' (zAX ops.size (qM (i :: E)) p) p) = zIf st' (lsd ops (i :: E)) := fun st' => by funext p; rw [zO1,zGd]
  have e2 : ∀ st' : St,(fun p => zGg T st' (zAX ops.size (qM (i :: E)) p) p) = zEM T st' (lsd ops (i :: E)) := fun st' => by funext p; rw [zMq,zGd]
  have e3 : ∀ st' : St,(fun p => (zGg T st' (zAX ops.size (qM (i :: E)) p) p).isSome) = fun p => (zEM T st' (lsd ops (i :: E)) p).isSome := fun st' => by funext p; rw [zMq,zGd]
  simp only [e1,e2,e3] at h2
  exact h2
theorem mB1 {P : Program} {cx : Cx} {T : Nat → Option TI} (hT : TOk P T) {ops : Array Oper} {t : Tab} (ht : zg ops t = true) {ps : List Pin} {n : Nat} {E : List Nat} {st : St} {K : St → Prop} (i : Nat) (hr : zD2 t (qM E) = [i]) (hb : zLH ops t ps (qM E) i = true)
  (h : LAt P cx (takeA ops (i + 1)) i st (fun st' => (ps.map (fun p => zLu st' (zAX t.sz (qM (i :: E)) p) p) = ps.map (fun p => zGg T st' (zAX t.sz (qM (i :: E)) p) p) ∧ (ps.all fun p => (zGg T st' (zAX t.sz (qM (i :: E)) p) p).isSome) = true) ∧ AT P cx ops ps n (i :: E) st' K)) : AT P cx ops ps (n + 1) E st K := by
 have := zF0 ht ⟨hb,h⟩
 exact AT.big1 hT i (by rw [zFc ht]; exact hr) this.1 this.2
theorem mB2 {P : Program} {cx : Cx} {T : Nat → Option TI} (hT : TOk P T) {ops : Array Oper} {t : Tab} (ht : zg ops t = true) {ps : List Pin} {n : Nat} {E : List Nat} {st : St} {K : St → Prop} (i j : Nat) (hr : zD2 t (qM E) = [i,j]) (h1 : AM1 P cx T ops t ps n E st K i) (h2 : AM1 P cx T ops t ps n E st K j) : AT P cx ops ps (n + 1) E st K :=
 AT.big2 hT i j (by rw [zFc ht]; exact hr) (zF0 ht h1) (zF0 ht h2)
theorem mB3 {P : Program} {cx : Cx} {T : Nat → Option TI} (hT : TOk P T) {ops : Array Oper} {t : Tab} (ht : zg ops t = true) {ps : List Pin} {n : Nat} {E : List Nat} {st : St} {K : St → Prop} (i j k : Nat) (hr : zD2 t (qM E) = [i,j,k]) (h1 : AM1 P cx T ops t ps n E st K i) (h2 : AM1 P cx T ops t ps n E st K j) (h3 : AM1 P cx T ops t ps n E st K k) : AT P cx ops ps (n + 1) E st K :=
 AT.big3 hT i j k (by rw [zFc ht]; exact hr) (zF0 ht h1) (zF0 ht h2) (zF0 ht h3)
end Go.TL
