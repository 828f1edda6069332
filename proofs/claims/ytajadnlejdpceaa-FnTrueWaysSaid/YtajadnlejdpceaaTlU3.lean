import Derived.Test.YtajadnlejdpceaaTlU2
set_option linter.unusedVariables false
namespace Go.TL
theorem Z7 {α : Type} {c : Bool} {x y : Option α} {r : Option α} (h : c = true) (H : (bif c then x else y) = r) : x = r := by rw [h] at H; exact H
theorem Z6 {α : Type} {c : Bool} {x y : Option α} {r : Option α} (h : c = false) (H : (bif c then x else y) = r) : y = r := by rw [h] at H; exact H
def zAR (T : Nat → Option TI) (ms : List Mode) (as : List Operand) (ats : List TypeId) (d : Option Nat) (rets : List Ret) (outs : List (Nat × List CV)) (st : St) : Option (List qS × List zD × St) := match zEV T ms as ats st with
 | some (ps,brs,ld,st1) => match zEU st1 ld outs d rets with
  | some st3 => some (ps,brs,st3)
  | none => none
 | none => none
def zBW (T : Nat → Option TI) (ms : List Mode) (as : List Operand) (ats : List TypeId) (d : Option Nat) (rets : List Ret) (outs : List (Nat × List CV)) (st : St) : St := match zAR T ms as ats d rets outs st with
 | some x => x.2.2
 | none => st
theorem LAt.callL {P : Program} {cx : Cx} {T : Nat → Option TI} (hT : TOk P T) {ops : Array Oper} {i : Nat} {st : St} {K : St → Prop} (ms : List Mode) {f : FuncId} {av : Array Operand} {ats : Array TypeId} {d : Option Nat} {ty : TypeId} {g : Option (Nat × Bool)}
  (hop : opAt ops i = some (.call { callee := .value (.func f),args := av,argTypes := ats },d,ty,g)) (hg : gdT ops st g = true) (hd : (match d with | some d => zV st d | none => true) = true) {ps : List qS} (brs : List zD) {rets : List Ret} {outs : List (Nat × List CV)}
  (hL : zG P f ps rets outs) (hq : (zAR T ms av.toList ats.toList d rets outs st).map (fun x => (x.1,x.2.1)) = some (ps,brs)) (hmine : brs = [] ∨ ((∀ r ∈ rets,r.mine) ∧ ∀ i out,(i,out) ∈ outs → CV.mineRow out)) (hk : LAt P cx ops (i + 1) (zBW T ms av.toList ats.toList d rets outs st) K) : LAt P cx ops i st K := by
 unfold zBW at hk
 cases hc : zAR T ms av.toList ats.toList d rets outs st with
 | none => rw [hc] at hq; cases hq
 | some x =>
  obtain ⟨ps',brs',st3⟩ := x
  rw [hc] at hq hk
  cases hq
  unfold zAR at hc
  split at hc
  ·rename_i ps1 brs1 ld st1 hpre
   split at hc
   ·rename_i st3' hpost
    cases hc
    exact LAt.call hT hop hg hd ms hL hpre hmine hpost hk
   ·cases hc
  ·cases hc
def boxKS (T : Nat → Option TI) (st : St) (t : TypeId) (x d : Nat) : Option St := match lk st.s x with
 | some (.val ag cs) => match qr T st t (.tmp x) with
  | some tk => bif zV tk.st d && !(x == d) then some { tk.st.newBox d tk.cs with s := (x,.ref (.box d) [(0,0)] cs.length 0 cs.length ag) :: (tk.st.newBox d tk.cs).s } else none
  | none => none
 | _ => none
theorem LAt.eqSG {P : Program} {cx : Cx} {ops : Array Oper} {i : Nat} {st : St} {K : St → Prop} (neg : Bool) {t ty ty' : TypeId} {x y : Operand} {d : Nat} {g : Option (Nat × Bool)} (b : Bool) (st' : St) (hop : opAt ops i = some (.binOp (bif neg then .neq else .eql) t x y ty,some d,ty',g)) (hg : gdT ops st g = true) (hd : zV st d = true)
  (hb : TL.eqS P st t x y = some b) (hst : st.put d (.val false [.lit (.bool (bif neg then !b else b))]) = st') (hk : LAt P cx ops (i + 1) st' K) : LAt P cx ops i st K := by
 subst hst
 exact LAt.stepG hop hg hd (fun o ho hdst _ => zMu ho hdst hd hb) hk
def zLN (st : St) : Option Operand → Option Int
 | none => some 0
 | some y => match zg st y with
  | some (.int _ i) => some i
  | _ => none
def zLM (st : St) (len : Nat) : Option Operand → Option Int
 | none => some len
 | some y => match zg st y with
  | some (.int _ i) => some i
  | _ => none
theorem zH7 {st : St} {y : Operand} {l : Int} (h : zLN st (some y) = some l) (h0 : 0 ≤ l) : ∃ k,zg st y = some (.int k (l.toNat : Int)) := by
 unfold zLN at h
 simp only at h
 split at h
 ·rename_i k i hy
  cases h
  exact ⟨k,by rw [hy,Int.toNat_of_nonneg h0]⟩
 ·cases h
theorem zH6 {st : St} {y : Operand} {len : Nat} {l : Int} (h : zLM st len (some y) = some l) (h0 : 0 ≤ l) : ∃ k,zg st y = some (.int k (l.toNat : Int)) := by
 unfold zLM at h
 simp only at h
 split at h
 ·rename_i k i hy
  cases h
  exact ⟨k,by rw [hy,Int.toNat_of_nonneg h0]⟩
 ·cases h
theorem LAt.cutG {P : Program} {cx : Cx} {T : Nat → Option TI} (hT : TOk P T) {ops : Array Oper} {n : Nat} {st : St} {K : St → Prop} {t ty e : TypeId} {x : Operand} {lo hi : Option Operand} {d : Nat} {g : Option (Nat × Bool)} (ie : TI) {α : Type} (row : α → List CV) (X : List α) (s : Qk) (l h : Int)
  (hop : opAt ops n = some (.slice t x lo hi none,some d,ty,g)) (hg : gdT ops st g = true) (hd : zV st d = true) (ht : ZE T t = some e) (he : T e = some ie) (hx : slS st x = some s) (hown : s.own = false) (hsz : Nat.beq s.sz ie.size = true) (hes : s.es = CV.frzEs (X.map row))
  (hl : zLN st lo = some l) (hh : zLM st X.length hi = some h) (hG : (decide (0 ≤ l) && (decide (l ≤ h) && decide (h ≤ (X.length : Int)))) = true) (hk : LAt P cx ops (n + 1) (st.put d (.val false [.sl false s.sz (CV.frzEs (((X.drop l.toNat).take (h.toNat - l.toNat)).map row))])) K) : LAt P cx ops n st K := by
 rw [Bool.and_eq_true,Bool.and_eq_true,decide_eq_true_eq,decide_eq_true_eq,decide_eq_true_eq] at hG
 have hlen : s.es.length = X.length := by rw [hes,CV.frzEs_length,List.length_map]
 have hcut : CV.frzEs (((X.drop l.toNat).take (h.toNat - l.toNat)).map row) = (s.es.drop l.toNat).take (h.toNat - l.toNat) := by
  rw [hes,CV.frzEs_eq,CV.frzEs_eq,List.map_take,List.map_drop,List.map_take,List.map_drop]
 rw [hcut] at hk
 have hsz := Nat.eq_of_beq_eq_true hsz
 refine LAt.stepG hop hg hd (fun o ho hdst _ => ?_) hk
 have h1 : l.toNat ≤ h.toNat := by omega
 have h2 : h.toNat ≤ s.es.length := by rw [hlen]; omega
 cases lo with
 | none =>
  have hl0 : l.toNat = 0 := by have : (0 : Int) = l := Option.some.inj hl; omega
  cases hi with
  | none =>
   have hh0 : h.toNat = s.es.length := by have : (X.length : Int) = h := Option.some.inj hh; omega
   exact zFf hT ho hdst ht he (zh hd) hx hown hsz hl0 hh0 h1 h2
  | some y => exact zFf hT ho hdst ht he (zh hd) hx hown hsz hl0 (zH6 hh (by omega)) h1 h2
 | some x2 =>
  cases hi with
  | none =>
   have hh0 : h.toNat = s.es.length := by have : (X.length : Int) = h := Option.some.inj hh; omega
   exact zFf hT ho hdst ht he (zh hd) hx hown hsz (zH7 hl hG.1) hh0 h1 h2
  | some y => exact zFf hT ho hdst ht he (zh hd) hx hown hsz (zH7 hl hG.1) (zH6 hh (by omega)) h1 h2
def zE5 (T : Nat → Option TI) (rs : List ResultVar) (ios : List Nat) (st : St) : Option (List (Option (Bool × List CV)) × St) := match zEJ T st.n rs st.n { st with n := st.n + rs.length } with
 | some (xs,st1) => match QV T ((xs ++ ios.map Operand.tmp).map fun x => (Mode.own,0,x)) 0 st1 with
  | some (l,st2) => bif st2.lo == st.lo && Nat.ble st.lo st.n then some (l,st2) else none
  | none => none
 | none => none
def zMp (args : List qS) (i : Nat) : Bool := match args[i]? with
 | some (.io _ _) => true
 | _ => false
def zKI (args : List qS) (i : Nat) : Bool := match args[i]? with
 | some (.ptr _) => true
 | _ => false
theorem Fin.ofY {T : Nat → Option TI} {rs : List ResultVar} {args : List qS} {ios : List Nat} {st : St} (rets rets' : List (Bool × List CV)) (ags : List Bool) (iout iout' : List (List CV)) (pouts pouts' : List (Nat × List CV))
  (h : (zE5 T rs ios st).map (fun x => x.1) = some ((rets' ++ List.zip ags iout').map some)) (hl : rets'.length = rs.length) (ha : ags.length = ios.length) (hi : iout'.length = ios.length) (hio : (ios.all fun i => Nat.blt i st.lo && zMp args i) = true)
  (hp1 : (pouts'.all fun x => Nat.blt x.1 st.lo && zKI args x.1) = true) (hp2 : (zE5 T rs ios st).map (fun x => pouts'.map fun y => lk x.2.s y.1) = some (pouts'.map fun x => some (.adr (.box x.1) [(0,0)] x.2.length 0))) (hp3 : (zE5 T rs ios st).map (fun x => pouts'.map fun y => lk x.2.b y.1) = some (pouts'.map fun x => some x.2))
  (e1 : rets' = rets) (e2 : iout' = iout) (e3 : pouts' = pouts) : Fin T rs args ios rets iout pouts st := by
 subst e1; subst e2; subst e3
 cases hf : zE5 T rs ios st with
 | none => rw [hf] at h; cases h
 | some x =>
  obtain ⟨l,st2⟩ := x
  rw [hf] at h hp2 hp3
  simp only [Option.map_some,Option.some.injEq] at h hp2 hp3
  subst h
  unfold zE5 at hf
  split at hf
  ·rename_i xs st1 h1
   split at hf
   ·rename_i l2 st2' h2
    cases hc : (st2'.lo == st.lo && Nat.ble st.lo st.n) with
    | false => simp [hc] at hf
    | true =>
     simp only [hc,cond_true,Option.some.injEq,Prod.mk.injEq] at hf
     obtain ⟨rfl,rfl⟩ := hf
     rw [Bool.and_eq_true] at hc
     have hlo : st2'.lo = st.lo := eq_of_beq hc.1
     refine ⟨xs,st1,ags,st2',h1,h2,hl,ha,hi,Nat.le_of_ble_eq_true hc.2,hlo,fun i hm => ?_,fun i out hm => ?_⟩
     ·rw [List.all_eq_true] at hio
      have := hio i hm
      rw [Bool.and_eq_true] at this
      refine ⟨Nat.le_of_ble_eq_true this.1,?_⟩
      have h3 := this.2
      unfold zMp at h3
      split at h3
      ·rename_i ag cs e; exact ⟨ag,cs,e⟩
      ·cases h3
     ·rw [List.all_eq_true] at hp1
      have := hp1 _ hm
      rw [Bool.and_eq_true] at this
      have e2 := zDO hp2 _ hm
      have e3 := zDO hp3 _ hm
      refine ⟨⟨by rw [hlo]; exact Nat.le_of_ble_eq_true this.1,e2,e3⟩,?_⟩
      have h3 := this.2
      unfold zKI at h3
      split at h3
      ·rename_i cs e; exact ⟨cs,e⟩
      ·cases h3
   ·cases hf
  ·cases hf
def finP (k : Nat) (cs : List CV) (t : Nat) : Exit → St → Prop
 | .normal,st | .ret,st => lk st.s t = some (.adr (.box k) [(0,0)] cs.length 0) ∧ lk st.b k = some cs
 | _,_ => False
def zHl (k : Nat) (ω : Own) : Own := fun b => match ω b with
 | some (1 :: i :: y) => if i = k then some (2 :: 0 :: y) else none
 | _ => none
theorem zFO {k : Nat} {ω : Own} {b : Nat} {p : zU} (h : zHl k ω b = some p) : ∃ y,ω b = some (1 :: k :: y) ∧ p = 2 :: 0 :: y := by
 unfold zHl at h
 split at h
 ·rename_i i y hb
  split at h
  ·rename_i hik; subst hik; cases h; exact ⟨y,hb,rfl⟩
  ·cases h
 ·cases h
theorem zG.of_body_ptr {P : Program} {T : Nat → Option TI} (hT : TOk P T) {f : FuncId} {fn : Func} {c : Code} {args : List qS} (hf : P.funcs[f]? = some fn) (hname : (fn.name == "runtime.NumGoroutine") = false) (hb : fn.body = some c)
  (hn : args.length ≤ fn.ntmps) (t k : Nat) (hrs : fn.results = #[.tmp t]) (cs : List CV) (h : ∀ cx,Tr P cx c (zDx fn.ntmps 0 args) (finP k cs t)) : zG P f args [.ptr cs] [] := by
 refine ⟨⟨fn,hf,hname,by rw [hb]; rfl⟩,fun w Z ω vals hI hs ha => ?_⟩
 refine calls_of_wp hf hb ?_
 refine wp_mono (h _ _ _ _ _ (Rel.init (lo := 0) hI hs hn ha)) fun e a w' ⟨st',Z',ω',hq,hR'⟩ => ?_
 have key : lk st'.s t = some (.adr (.box k) [(0,0)] cs.length 0) ∧ lk st'.b k = some cs → a.defers = [] ∧ ∃ v,(results fn a.tmps).run P w' = .ok v w' ∧ ∃ v' Z2 ω2,Ending.returned v = .returned v' ∧ Inv ⟨w,Z,ω,vals⟩ w' Z2 ω2 ∧ zAQ w' Z2 ω2 v' [.ptr cs] ∧
   ∀ i out,(i,out) ∈ ([] : List (Nat × List CV)) → zCk w' Z2 ω2 vals args i out := by
  rintro ⟨h1,h2⟩
  obtain ⟨b,e1,e2⟩ := hR'.hs t _ (zP h1)
  obtain ⟨u,hu⟩ := hR'.hb k cs (zP h2)
  have e1 : ω' b = some [1,k,0] := by simpa [zD.path,spine,zX] using e1
  have hsub : ∀ b p,zHl k ω' b = some p → ∃ q,ω' b = some q := fun b p hb => by obtain ⟨y,h1,_⟩ := zFO hb; exact ⟨_,h1⟩
  refine ⟨hR'.df,a.tmps.getD t undef,?_,_,Z',zHl k ω',rfl,?_,⟨b,by rw [e2]; simp [zX],by simp [zHl,e1],u,?_⟩,fun i out hm => by cases hm⟩
  ·have := zF9 (P := P) (fn := fn) (tm := a.tmps) (w := w') (us := [a.tmps.getD t undef]) (by rw [hrs]; simp [zC5])
   rw [this]
   simp
  ·refine { hR'.inv with wold := fun b p hb => ?_,disj := fun b p hz hb => ?_,inj := fun b b' p h1 h2 => ?_,lt := fun b p hb => ?_ }
   ·obtain ⟨q,hq⟩ := hsub b p hb; exact hR'.inv.wold b q hq
   ·obtain ⟨q,hq⟩ := hsub b p hb; exact hR'.inv.disj b q hz hq
   ·obtain ⟨y,k1,k2⟩ := zFO h1
    obtain ⟨y',k3,k4⟩ := zFO h2
    rw [k2] at k4
    cases k4
    exact hR'.inv.inj _ _ _ k1 k3
   ·obtain ⟨q,hq⟩ := hsub b p hb; exact hR'.inv.lt b q hq
  ·refine hu.conv _ (fun b hb => ⟨hb,rfl⟩) fun b r hb => ⟨?_,rfl⟩
   simp only [List.cons_append,List.nil_append] at hb ⊢
   simp [zHl,hb]
 cases e with
 | normal => exact key hq
 | ret => exact key hq
 | _ => exact hq.elim
def zEO (k : Nat) : SV → Bool
 | .ref r q _ _ _ _ | .adr r q _ _ => !(r.eqb (.box k)) || (match q with | [(0,0)] => true | _ => false)
 | _ => true
def St.frzB (st : St) (k : Nat) : St := match lk st.b k with
 | some cs => { st with s := st.s.filter fun x => zEO k x.2,b := (k,CV.frzRow cs) :: zAY (.box k) st.b }
 | none => st
def zHi (k : Nat) (ω : Own) : Own := fun b => match ω b with
 | some p => (match strip [1,k,0] p with
  | some (_ :: _) => none
  | _ => some p)
 | none => none
theorem zB5 {k : Nat} {ω : Own} {b : Nat} {p : zU} (h : zHi k ω b = some p) : ω b = some p ∧ ∀ y r,p ≠ [1,k,0] ++ y :: r := by
 unfold zHi at h
 split at h
 ·rename_i q hq
  split at h
  ·cases h
  ·rename_i hn
   cases h
   exact ⟨hq,fun y r e => hn y r (Yw.2 e)⟩
 ·cases h
theorem zDP {k : Nat} {ω : Own} {b : Nat} {p : zU} (h : ω b = some p) (hp : ∀ y r,p ≠ [1,k,0] ++ y :: r) : zHi k ω b = some p := by
 unfold zHi
 rw [h]
 simp only
 split
 ·rename_i y r hs; exact absurd (Yw.1 hs) (hp y r)
 ·rfl
theorem Rel.freezeBox {cx st a w Z ω} (h : Rel cx st a w Z ω) {k : Nat} {cs : List CV} (hl : lk st.b k = some cs) : ∃ Z' ω',Rel cx (st.frzB k) a w Z' ω' := by
 unfold St.frzB
 rw [hl]
 obtain ⟨u,hu⟩ := h.hb k cs (zP hl)
 let Z1 : qM := fun b => Z b ∨ ∃ y r,ω b = some ([1,k,0] ++ y :: r)
 have inv' : Inv cx w Z1 (zHi k ω) :=
  { h.inv with
   zsub := fun b hb => .inl (h.inv.zsub b hb)
   zold := fun b hb hlt h0 => by
    rcases hb with hb | ⟨y,r,hb⟩
    ·exact h.inv.zold b hb hlt h0
    ·exact absurd h0 (h.inv.wold b _ hb hlt)
   wold := fun b p hb hlt => h.inv.wold b p (zB5 hb).1 hlt
   disj := fun b p hz hb => by
    obtain ⟨k1,k2⟩ := zB5 hb
    rcases hz with hz | ⟨y,r,hz⟩
    ·exact h.inv.disj b p hz k1
    ·rw [k1] at hz; exact k2 y r (Option.some.inj hz)
   inj := fun b b' p h1 h2 => h.inv.inj _ _ _ (zB5 h1).1 (zB5 h2).1
   lt := fun b p hb => h.inv.lt b p (zB5 hb).1
   zlt := fun b hb => by
    rcases hb with hb | ⟨y,r,hb⟩
    ·exact h.inv.zlt b hb
    ·exact h.inv.lt b _ hb }
 refine ⟨Z1,zHi k ω,h.step (· = .box k) ⟨fun b hb => ⟨.inl hb,rfl⟩,fun r hr b x hb => ⟨zDP hb fun y s e => ?_,rfl⟩,fun _ _ => rfl⟩ inv' h.nt h.df h.pin (fun t sv hm => ?_) (fun k' cs' hm => ?_)⟩
 ·exact hr (zD.path_inj (r := r) (s := .box k) (x := x) (y := 0 :: y :: s) e).1
 ·obtain ⟨hm,hk⟩ := List.mem_filter.1 hm
  cases sv with
  | val ag cs => exact .inl ⟨hm,by intro e; cases e⟩
  | fad cs => exact .inl ⟨hm,by intro e; cases e⟩
  | tup vs => exact .inl ⟨hm,by intro e; cases e⟩
  | adr r q m o =>
   cases hr : r.eqb (.box k) with
   | false => exact .inl ⟨hm,zD.eqb_ff hr,by intro e; cases e⟩
   | true =>
    simp only [zEO,hr,Bool.not_true,Bool.false_or] at hk
    split at hk
    ·rename_i hq
     obtain ⟨b,e1,e2⟩ := h.hs t _ hm
     have : r = .box k := zD.eqb_iff.1 hr
     subst this
     right
     exact ⟨b,zDP e1 (fun y s e => by simp [zD.path,spine] at e),e2⟩
    ·cases hk
  | ref r q m o n ag =>
   cases hr : r.eqb (.box k) with
   | false => exact .inl ⟨hm,zD.eqb_ff hr,by intro e; cases e⟩
   | true =>
    simp only [zEO,hr,Bool.not_true,Bool.false_or] at hk
    split at hk
    ·rename_i hq
     obtain ⟨e1,e2,e3⟩ := h.hs t _ hm
     have : r = .box k := zD.eqb_iff.1 hr
     subst this
     right
     refine ⟨e1,e2,fun j u hju => ?_⟩
     obtain ⟨b,cur,T,f1,f2,f3⟩ := e3 j u hju
     exact ⟨b,cur,T,zDP f1 (fun y s e => by simp [zD.path,spine] at e),f2,f3⟩
    ·cases hk
 ·rcases List.mem_cons.1 hm with e | hm
  ·cases e
   right
   refine ⟨u,?_⟩
   refine ⟨by simp,fun j c v hc hv => ?_⟩
   cases j with
   | succ j => simp at hc
   | zero =>
    simp only [List.getElem?_cons_zero,Option.some.injEq] at hc
    have hc : .sl true (CV.frzRow cs).length [CV.frzRow cs] = c := hc
    subst hc
    have h0 := hu.2 0 _ v rfl hv
    rw [show (CV.frzRow cs).length = cs.length by rw [CV.frzRow_eq,List.length_map]]
    cases h0 with
    | own p b cap sz es us cur T hω hb hcap hm' hcs hsz hcc hr =>
     refine .own _ b cap _ [CV.frzRow cs] us cur T (zDP hω (fun y s e => by simp at e)) hb hcap hm' hcs (fun e he => ?_) (fun i j c hij => ?_) (fun i j c hij => ?_)
     ·rw [List.mem_singleton] at he
      subst he
      rw [CV.frzRow_eq,List.length_map]
     ·obtain ⟨c0,e1,e2⟩ := Ql (es := [cs]) hij
      exact hcc i j c0 e1
     ·obtain ⟨c0,e1,rfl⟩ := Ql (es := [cs]) hij
      refine (hr i j c0 e1).freeze _ (fun b hb => ⟨.inl hb,rfl⟩) fun b r hb => ⟨?_,rfl⟩
      obtain ⟨x,g1,g2⟩ := Zz e1
      have hi0 : i = 0 := by
       cases i with
       | zero => rfl
       | succ i => simp at g1
      subst hi0
      exact .inr ⟨0,j :: r,by rw [hb]; simp⟩
  ·have := YC hm
   exact .inl ⟨this.1,zD.eqb_ff this.2⟩
theorem Tr.frzB {P : Program} {cx : Cx} {c : Code} {st : St} {Q : Exit → St → Prop} (k : Nat) (hk : Tr P cx c (st.frzB k) Q) : Tr P cx c st Q := fun a w Z ω hR => by
 cases hl : lk st.b k with
 | none =>
  unfold St.frzB at hk
  rw [hl] at hk
  exact hk a w Z ω hR
 | some cs =>
  obtain ⟨Z',ω',h1⟩ := hR.freezeBox hl
  exact hk a w Z' ω' h1
end Go.TL
