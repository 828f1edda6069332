import Derived.Test.YtajadnlejdpceaaGreatTlW
set_option linter.unusedVariables false
namespace Go.TL
def zHS : Code → List (Nat × Array Oper)
 | .region id ops _ => [(id,ops)]
 | .seq a b => zHS a ++ zHS b
 | .cond _ a b => zHS a ++ zHS b
 | .block _ a => zHS a
 | .loop a => zHS a
 | .scope a => zHS a
 | _ => []
def rg (fn : Func) (k : Nat) : Array Oper := match fn.body with
 | some c => match lk (zHS c) k with
  | some ops => ops
  | none => #[]
 | none => #[]
def opAt (ops : Array Oper) (i : Nat) : Option (Op × Option Nat × TypeId × Option (Nat × Bool)) := match ops[i]? with
 | some o => some (o.op,o.dst,o.type,o.guard)
 | none => none
def LAt (P : Program) (cx : Cx) (ops : Array Oper) (i : Nat) (st : St) (K : St → Prop) : Prop := ZI P cx ops (ops.toList.drop i) st K
theorem zMf {ops : Array Oper} {i : Nat} {o : Oper} (h : ops[i]? = some o) : ops.toList.drop i = o :: ops.toList.drop (i + 1) := by
 have h' : ops.toList[i]? = some o := by simpa using h
 obtain ⟨hl,he⟩ := List.getElem?_eq_some_iff.1 h'
 rw [List.drop_eq_getElem_cons hl,he]
theorem zHM {ops : Array Oper} {i : Nat} {op d ty g} (h : opAt ops i = some (op,d,ty,g)) : ∃ o,ops[i]? = some o ∧ o.op = op ∧ o.dst = d ∧ o.type = ty ∧ o.guard = g := by
 unfold opAt at h
 split at h
 ·rename_i o ho; cases h; exact ⟨o,ho,rfl,rfl,rfl,rfl⟩
 ·cases h
theorem ZI.sub {P cx ops l st st'} {K : St → Prop} (hs : st'.sub st) (h : ZI P cx ops l st' K) : ZI P cx ops l st K := fun a w Z ω Q hR hK => h a w Z ω Q (hR.sub hs) hK
def zBz (T : Nat → Option TI) (ops : Array Oper) (i n : Nat) (st : St) : Option St := match runN T ops n (ops.toList.drop i) st with
 | some (_,st') => some st'
 | none => none
theorem zK2 {T : Nat → Option TI} {ops : Array Oper} : ∀ (n : Nat) (l l' : List Oper) (st st' : St),runN T ops n l st = some (l',st') → l' = l.drop n
 | 0,l,l',st,st',h => by cases h; rfl
 | n + 1,[],l',st,st',h => by cases h; rfl
 | n + 1,o :: l,l',st,st',h => by
  simp only [runN] at h
  have fin : ∀ st1,runN T ops n l st1 = some (l',st') → l' = (o :: l).drop (n + 1) := fun st1 h => by simpa using zK2 n l l' st1 st' h
  have cut : ∀ (d : Option Nat),(match d with | some d => bif zo st d then runN T ops n l (st.forget (some d)) else none | none => runN T ops n l st) = some (l',st') → l' = (o :: l).drop (n + 1) := by
   intro d h
   cases d with
   | none => exact fin _ h
   | some d => cases hok : zo st d with
    | false => simp [hok] at h
    | true => simp only [hok,cond_true] at h; exact fin _ h
  split at h
  ·split at h
   ·exact fin _ h
   ·cases h
  ·split at h
   ·split at h
    ·split at h
     ·exact fin _ h
     ·cases h
    ·exact cut _ h
   ·split at h
    ·split at h
     ·exact fin _ h
     ·cases h
    ·exact cut _ h
   ·cases hN : gdN ops st _ with
    | false => rw [hN] at h; cases h
    | true => rw [hN] at h; exact cut _ h
theorem LAt.run {P : Program} {cx : Cx} {T : Nat → Option TI} (hT : TOk P T) {ops : Array Oper} {i : Nat} {st : St} {K : St → Prop} (n : Nat) (st' : St) (h : zBz T ops i n st = some st') (hk : LAt P cx ops (i + n) st' K) : LAt P cx ops i st K := by
 unfold zBz at h
 split at h
 ·rename_i l' st1 hr
  cases h
  have := zK2 n _ _ _ _ hr
  rw [List.drop_drop] at this
  unfold LAt at hk ⊢
  rw [← this] at hk
  exact ZI.runN hT n _ _ _ _ hr hk
 ·cases h
theorem Tr.at {P cx st} {id : Nat} {ops : Array Oper} {Q : Exit → St → Prop} (h : LAt P cx ops 0 st (fun st' => Q .normal st')) : Tr P cx (.region id ops false) st Q := Tr.region h
theorem Tr.rs {P cx st} {id : Nat} {ops : Array Oper} {c : Code} {Q : Exit → St → Prop} (h : LAt P cx ops 0 st (fun st' => Tr P cx c st' Q)) : Tr P cx (.seq (.region id ops false) c) st Q := Tr.seq (Tr.at h)
def zI0 : List Mode → List TypeId → List Operand → Option (List (Mode × TypeId × Operand))
 | [],[],[] => some []
 | m :: ms,t :: ts,x :: xs => match zI0 ms ts xs with
  | some l => some ((m,t,x) :: l)
  | none => none
 | _,_,_ => none
theorem zMD : ∀ {ms : List Mode} {ts : List TypeId} {xs : List Operand} {l : List (Mode × TypeId × Operand)},zI0 ms ts xs = some l → xs = l.map fun x => x.2.2
 | [],[],[],l,h => by cases h; rfl
 | m :: ms,t :: ts,x :: xs,l,h => by
  simp only [zI0] at h
  split at h
  ·rename_i l' h'
   cases h
   simp only [List.map_cons]
   rw [← zMD h']
  ·cases h
 | [],[],_ :: _,l,h => by cases h
 | [],_ :: _,_,l,h => by cases h
 | _ :: _,[],_,l,h => by cases h
 | _ :: _,_ :: _,[],l,h => by cases h
def zKL (r : zK) : List zK → Bool
 | [] => false
 | x :: l => x.eqb r || zKL r l
theorem zLl {r : zK} : ∀ {l : List zK},zKL r l = false → r ∉ l
 | [],h,hm => by cases hm
 | x :: l,h,hm => by
  simp only [zKL,Bool.or_eq_false_iff] at h
  rcases List.mem_cons.1 hm with e | hm
  ·subst e; exact zK.eqb_ff h.1 rfl
  ·exact zLl h.2 hm
def zIg (T : Nat → Option TI) (ms : List Mode) (as : List Operand) (ats : List TypeId) (st : St) : Option (List ql × List zK × Option qI × St) := match zI0 ms ats as with
 | some xs => match YR T xs 0 st with
  | some (ows,st1) => match zAR T st1 xs ows 0 with
   | some (ps,brs,ld) => bif (match ld with | some l => zKL l.r brs | none => false) then none else some (ps,brs,ld,st1)
   | none => none
  | none => none
 | none => none
def zJS (st1 : St) (ld : Option qI) (outs : List (Nat × List CV)) (d : Option Nat) (rets : List Ret) : Option St := match zAT st1 ld outs with
 | some st2 => zDV st2 d rets
 | none => none
def gdT (ops : Array Oper) (st : St) : Option (Nat × Bool) → Bool
 | none => true
 | some (j,want) => match gdS ops st j with
  | some true => want
  | some false => !want
  | none => false
theorem LAt.call {P : Program} {cx : Cx} {T : Nat → Option TI} (hT : TOk P T) {ops : Array Oper} {i : Nat} {st : St} {K : St → Prop} {f : FuncId} {av : Array Operand} {ats : Array TypeId} {d : Option Nat} {ty : TypeId} {g : Option (Nat × Bool)}
  (hop : opAt ops i = some (.call { callee := .value (.func f),args := av,argTypes := ats },d,ty,g)) (hg : gdT ops st g = true) (hd : (match d with | some d => zo st d | none => true) = true) (ms : List Mode) {ps : List ql} {brs : List zK} {ld : Option qI} {st1 st3 : St} {rets : List Ret} {outs : List (Nat × List CV)}
  (hL : zJ P f ps rets outs) (hpre : zIg T ms av.toList ats.toList st = some (ps,brs,ld,st1)) (hmine : brs = [] ∨ ((∀ r ∈ rets,r.mine) ∧ ∀ i out,(i,out) ∈ outs → CV.mineRow out)) (hpost : zJS st1 ld outs d rets = some st3)
  (hk : LAt P cx ops (i + 1) st3 K) : LAt P cx ops i st K := by
 obtain ⟨o,ho,e1,e2,e3,e4⟩ := zHM hop
 unfold zIg at hpre
 split at hpre
 ·rename_i xs hxs
  split at hpre
  ·rename_i ows st1' hcons
   split at hpre
   ·rename_i ps' brs' ld' hargs
    cases hb : (match ld' with | some l => zKL l.r brs' | none => false) with
    | true => rw [hb] at hpre; cases hpre
    | false =>
     rw [hb] at hpre
     simp only [cond_false,Option.some.injEq,Prod.mk.injEq] at hpre
     obtain ⟨rfl,rfl,rfl,rfl⟩ := hpre
     unfold zJS at hpost
     split at hpost
     ·rename_i st2 hback
      have hopt : OpT P cx o st (fun st' => ZI P cx ops (ops.toList.drop (i + 1)) st' K) :=
       zOz (T := T) e1 (zMD hxs) hcons hargs (fun l hl => by subst hl; exact zLl hb) hL hmine hback (by rw [e2]; exact hpost) hk
      unfold LAt
      rw [zMf ho]
      cases hgg : g with
      | none => exact ZI.cons (by rw [e4,hgg]) hopt
      | some jw =>
       obtain ⟨j,want⟩ := jw
       rw [hgg] at hg e4
       simp only [gdT] at hg
       split at hg
       ·rename_i hgs
        subst hg
        exact ZI.guard e4 hgs (fun x hx => by rw [e2] at hx; subst hx; exact qJ hd) (fun _ => hopt) (fun e => absurd rfl e)
       ·rename_i hgs
        have : want = false := by simpa using hg
        subst this
        exact ZI.guard e4 hgs (fun x hx => by rw [e2] at hx; subst hx; exact qJ hd) (fun _ => hopt) (fun e => absurd rfl e)
       ·cases hg
     ·cases hpost
   ·cases hpre
  ·cases hpre
 ·cases hpre
def callQ (T : Nat → Option TI) (ms : List Mode) (as : List Operand) (ats : List TypeId) (d : Option Nat) (rets : List Ret) (st : St) : Option (List ql × St) := match zIg T ms as ats st with
 | some (ps,[],none,st1) => match zDV st1 d rets with
  | some st3 => some (ps,st3)
  | none => none
 | _ => none
def zBR : List CV → Option (List Value)
 | [] => some []
 | .lit v :: cs => match zBR cs with
  | some vs => some (v :: vs)
  | none => none
 | _ :: _ => none
theorem zHK {w Z ω p} : ∀ {cs : List CV} {vs us : List Value},zBR cs = some vs → ze w Z ω p us cs → us = vs := by
 intro cs vs us h hr
 have hall : ∀ {cs : List CV} {vs : List Value},zBR cs = some vs → cs = vs.map .lit := by
  intro cs
  induction cs with
  | nil => intro vs h; cases h; rfl
  | cons c cs ih =>
   intro vs h
   cases c with
   | lit v =>
    simp only [zBR] at h
    split at h
    ·rename_i vs' h'; cases h; simp [ih h']
    ·cases h
   | sl own sz es => cases h
   | dead => cases h
 rw [hall h] at hr
 refine List.ext_getElem? fun j => ?_
 cases hu : us[j]? with
 | none =>
  have : us.length ≤ j := List.getElem?_eq_none_iff.1 hu
  rw [hr.1,List.length_map] at this
  rw [List.getElem?_eq_none this]
 | some u =>
  have hjl := (List.getElem?_eq_some_iff.1 hu).1
  rw [hr.1,List.length_map] at hjl
  have hc : (vs.map CV.lit)[j]? = some (.lit vs[j]) := by simp [hjl]
  have := hr.2 j _ u hc hu
  cases this
  simp [hjl]
def zJy (st : St) : Operand → Option (List Value)
 | .tmp t => match lk st.s t with
  | some (.val true cs) => zBR cs
  | _ => none
 | _ => none
theorem zI2 {cx st a w Z ω} (h : Rel cx st a w Z ω) {x : Operand} {vs : List Value} (hx : zJy st x = some vs) : a.eval x = .agg vs.toArray := by
 unfold zJy at hx
 split at hx
 ·rename_i t
  split at hx
  ·rename_i cs hl
   have hs := h.hs t _ (zb hl)
   obtain ⟨us,hu⟩ := hs.1
   have h2 := zHK hx hs.2
   show a.tmps.getD t undef = _
   rw [hu] at h2 ⊢
   have : us.toList = vs := h2
   rw [← this]
  ·cases hx
 ·cases hx
theorem zPt {P : Program} {cx : Cx} {st : St} {o : Oper} {op : BinOp} {t ty : TypeId} {x y : Operand} {d : Nat} {vx vy : List Value} {b : Bool}
  (ho : o.op = .binOp op t x y ty) (hdst : o.dst = some d) (hd : zo st d = true) (hx : zJy st x = some vx) (hy : zJy st y = some vy) (hrun : ∀ w,(do eqGuard op t x y (.agg vx.toArray) (.agg vy.toArray); binOp op t (.agg vx.toArray) (.agg vy.toArray) : Sem Value).run P w = .ok (.bool b) w) :
  Zg P cx o st (st.put d (.val false [.lit (.bool b)])) := by
 refine zCw hdst (qJ hd) rfl fun a w Z ω h => ?_
 have h1 := zI2 h hx
 have h2 := zI2 h hy
 have h3 := hrun w
 simp only [execOp,ho,h1,h2]
 simp only [Sem.run_bind] at h3 ⊢
 rw [h3]
 rfl
def zJ1 (T : Nat → Option TI) (rs : List ResultVar) (st : St) : Option (List (Option (Bool × List CV))) := match zGW T st.n rs st.n { st with n := st.n + rs.length } with
 | some (xs,st1) => match YR T (xs.map fun x => (Mode.own,0,x)) 0 st1 with
  | some (l,st2) => bif st2.lo == st.lo && Nat.ble st.lo st.n then some l else none
  | none => none
 | none => none
theorem Fin.of {T : Nat → Option TI} {rs : List ResultVar} {args : List ql} {st : St} (rets rets' : List (Bool × List CV)) (h : zJ1 T rs st = some (rets'.map some)) (hl : rets'.length = rs.length) (he : rets' = rets) : Fin T rs args [] rets [] [] st := by
 subst he
 unfold zJ1 at h
 split at h
 ·rename_i xs st1 h1
  split at h
  ·rename_i l st2 h2
   cases hc : (st2.lo == st.lo && Nat.ble st.lo st.n) with
   | false => simp [hc] at h
   | true =>
    simp only [hc,cond_true,Option.some.injEq] at h
    subst h
    rw [Bool.and_eq_true] at hc
    refine ⟨xs,st1,[],st2,h1,?_,hl,rfl,rfl,Nat.le_of_ble_eq_true hc.2,eq_of_beq hc.1,fun i hi => (by cases hi),fun i out hm => (by cases hm)⟩
    simpa using h2
  ·cases h
 ·cases h
end Go.TL
