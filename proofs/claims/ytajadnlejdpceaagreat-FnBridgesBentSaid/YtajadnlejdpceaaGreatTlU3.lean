import Derived.Test.YtajadnlejdpceaaGreatTlU2
set_option linter.unusedVariables false
namespace Go.TL
theorem zJ {α : Type} {c : Bool} {x y : Option α} {r : Option α} (h : c = true) (H : (bif c then x else y) = r) : x = r := by rw [h] at H; exact H
theorem zI {α : Type} {c : Bool} {x y : Option α} {r : Option α} (h : c = false) (H : (bif c then x else y) = r) : y = r := by rw [h] at H; exact H
def zEm (T : Nat → Option TI) (ms : List Mode) (as : List Operand) (ats : List TypeId) (d : Option Nat) (rets : List Ret) (outs : List (Nat × List CV)) (st : St) : Option (List qe × List zE × St) := match zGt T ms as ats st with
 | some (ps,brs,ld,st1) => match zGN st1 ld outs d rets with
  | some st3 => some (ps,brs,st3)
  | none => none
 | none => none
def zHT (T : Nat → Option TI) (ms : List Mode) (as : List Operand) (ats : List TypeId) (d : Option Nat) (rets : List Ret) (outs : List (Nat × List CV)) (st : St) : St := match zEm T ms as ats d rets outs st with
 | some x => x.2.2
 | none => st
theorem LAt.callL {P : Program} {cx : Cx} {T : Nat → Option TI} (hT : TOk P T) {ops : Array Oper} {i : Nat} {st : St} {K : St → Prop} (ms : List Mode) {f : FuncId} {av : Array Operand} {ats : Array TypeId} {d : Option Nat} {ty : TypeId} {g : Option (Nat × Bool)}
  (hop : opAt ops i = some (.call { callee := .value (.func f),args := av,argTypes := ats },d,ty,g)) (hg : gdT ops st g = true) (hd : (match d with | some d => zp st d | none => true) = true) {ps : List qe} (brs : List zE) {rets : List Ret} {outs : List (Nat × List CV)}
  (hL : zG P f ps rets outs) (hq : (zEm T ms av.toList ats.toList d rets outs st).map (fun x => (x.1,x.2.1)) = some (ps,brs)) (hmine : brs = [] ∨ ((∀ r ∈ rets,r.mine) ∧ ∀ i out,(i,out) ∈ outs → CV.mineRow out)) (hk : LAt P cx ops (i + 1) (zHT T ms av.toList ats.toList d rets outs st) K) : LAt P cx ops i st K := by
 unfold zHT at hk
 cases hc : zEm T ms av.toList ats.toList d rets outs st with
 | none => rw [hc] at hq; cases hq
 | some x =>
  obtain ⟨ps',brs',st3⟩ := x
  rw [hc] at hq hk
  cases hq
  unfold zEm at hc
  split at hc
  ·rename_i ps1 brs1 ld st1 hpre
   split at hc
   ·rename_i st3' hpost
    cases hc
    exact LAt.call hT hop hg hd ms hL hpre hmine hpost hk
   ·cases hc
  ·cases hc
def boxKS (T : Nat → Option TI) (st : St) (t : TypeId) (x d : Nat) : Option St := match lk st.s x with
 | some (.val ag cs) => match qX T st t (.tmp x) with
  | some tk => bif zp tk.st d && !(x == d) then some { tk.st.newBox d tk.cs with s := (x,.ref (.box d) [(0,0)] cs.length 0 cs.length ag) :: (tk.st.newBox d tk.cs).s } else none
  | none => none
 | _ => none
theorem LAt.eqSG {P : Program} {cx : Cx} {ops : Array Oper} {i : Nat} {st : St} {K : St → Prop} (neg : Bool) {t ty ty' : TypeId} {x y : Operand} {d : Nat} {g : Option (Nat × Bool)} (b : Bool) (st' : St) (hop : opAt ops i = some (.binOp (bif neg then .neq else .eql) t x y ty,some d,ty',g)) (hg : gdT ops st g = true) (hd : zp st d = true)
  (hb : TL.eqS P st t x y = some b) (hst : st.put d (.val false [.lit (.bool (bif neg then !b else b))]) = st') (hk : LAt P cx ops (i + 1) st' K) : LAt P cx ops i st K := by
 subst hst
 exact LAt.stepG hop hg hd (fun o ho hdst _ => zJs ho hdst hd hb) hk
def zIf (st : St) : Option Operand → Option Int
 | none => some 0
 | some y => match zw st y with
  | some (.int _ i) => some i
  | _ => none
def zIe (st : St) (len : Nat) : Option Operand → Option Int
 | none => some len
 | some y => match zw st y with
  | some (.int _ i) => some i
  | _ => none
theorem zFt {st : St} {y : Operand} {l : Int} (h : zIf st (some y) = some l) (h0 : 0 ≤ l) : ∃ k,zw st y = some (.int k (l.toNat : Int)) := by
 unfold zIf at h
 simp only at h
 split at h
 ·rename_i k i hy
  cases h
  exact ⟨k,by rw [hy,Int.toNat_of_nonneg h0]⟩
 ·cases h
theorem zFs {st : St} {y : Operand} {len : Nat} {l : Int} (h : zIe st len (some y) = some l) (h0 : 0 ≤ l) : ∃ k,zw st y = some (.int k (l.toNat : Int)) := by
 unfold zIe at h
 simp only at h
 split at h
 ·rename_i k i hy
  cases h
  exact ⟨k,by rw [hy,Int.toNat_of_nonneg h0]⟩
 ·cases h
theorem LAt.cutG {P : Program} {cx : Cx} {T : Nat → Option TI} (hT : TOk P T) {ops : Array Oper} {n : Nat} {st : St} {K : St → Prop} {t ty e : TypeId} {x : Operand} {lo hi : Option Operand} {d : Nat} {g : Option (Nat × Bool)} (ie : TI) {α : Type} (row : α → List CV) (X : List α) (s : Qk) (l h : Int)
  (hop : opAt ops n = some (.slice t x lo hi none,some d,ty,g)) (hg : gdT ops st g = true) (hd : zp st d = true) (ht : ZH T t = some e) (he : T e = some ie) (hx : slS st x = some s) (hown : s.own = false) (hsz : Nat.beq s.sz ie.size = true) (hes : s.es = CV.frzEs (X.map row))
  (hl : zIf st lo = some l) (hh : zIe st X.length hi = some h) (hG : (decide (0 ≤ l) && (decide (l ≤ h) && decide (h ≤ (X.length : Int)))) = true) (hk : LAt P cx ops (n + 1) (st.put d (.val false [.sl false s.sz (CV.frzEs (((X.drop l.toNat).take (h.toNat - l.toNat)).map row))])) K) : LAt P cx ops n st K := by
 rw [Bool.and_eq_true,Bool.and_eq_true,decide_eq_true_eq,decide_eq_true_eq,decide_eq_true_eq] at hG
 have hlen : s.es.length = X.length := by rw [hes,CV.frzEs_length,List.length_map]
 have hcut : CV.frzEs (((X.drop l.toNat).take (h.toNat - l.toNat)).map row) = (s.es.drop l.toNat).take (h.toNat - l.toNat) := by
  rw [hes,CV.frzEs_eq,CV.frzEs_eq,List.map_take,List.map_drop,List.map_take,List.map_drop]
 rw [hcut] at hk
 have hsz := Nat.eq_of_beq_eq_true hsz
 refine LAt.stepG hop hg hd (fun o ho hdst _ => ?_) hk
 have h1 : l.toNat ≤ h.toNat := by omega
 have h2 : h.toNat ≤ s.es.length := by rw [hlen]; omega
 cases lo with
 | none =>
  have hl0 : l.toNat = 0 := by have : (0 : Int) = l := Option.some.inj hl; omega
  cases hi with
  | none =>
   have hh0 : h.toNat = s.es.length := by have : (X.length : Int) = h := Option.some.inj hh; omega
   exact zDp hT ho hdst ht he (z6 hd) hx hown hsz hl0 hh0 h1 h2
  | some y => exact zDp hT ho hdst ht he (z6 hd) hx hown hsz hl0 (zFs hh (by omega)) h1 h2
 | some x2 =>
  cases hi with
  | none =>
   have hh0 : h.toNat = s.es.length := by have : (X.length : Int) = h := Option.some.inj hh; omega
   exact zDp hT ho hdst ht he (z6 hd) hx hown hsz (zFt hl hG.1) hh0 h1 h2
  | some y => exact zDp hT ho hdst ht he (z6 hd) hx hown hsz (zFt hl hG.1) (zFs hh (by omega)) h1 h2
def zGZ (T : Nat → Option TI) (rs : List ResultVar) (ios : List Nat) (st : St) : Option (List (Option (Bool × List CV)) × St) := match zCn T st.n rs st.n { st with n := st.n + rs.length } with
 | some (xs,st1) => match QX T ((xs ++ ios.map Operand.tmp).map fun x => (Mode.own,0,x)) 0 st1 with
  | some (l,st2) => bif st2.lo == st.lo && Nat.ble st.lo st.n then some (l,st2) else none
  | none => none
 | none => none
def zJm (args : List qe) (i : Nat) : Bool := match args[i]? with
 | some (.io _ _) => true
 | _ => false
def zI0 (args : List qe) (i : Nat) : Bool := match args[i]? with
 | some (.ptr _) => true
 | _ => false
theorem Fin.ofY {T : Nat → Option TI} {rs : List ResultVar} {args : List qe} {ios : List Nat} {st : St} (rets rets' : List (Bool × List CV)) (ags : List Bool) (iout iout' : List (List CV)) (pouts pouts' : List (Nat × List CV))
  (h : (zGZ T rs ios st).map (fun x => x.1) = some ((rets' ++ List.zip ags iout').map some)) (hl : rets'.length = rs.length) (ha : ags.length = ios.length) (hi : iout'.length = ios.length) (hio : (ios.all fun i => Nat.blt i st.lo && zJm args i) = true)
  (hp1 : (pouts'.all fun x => Nat.blt x.1 st.lo && zI0 args x.1) = true) (hp2 : (zGZ T rs ios st).map (fun x => pouts'.map fun y => lk x.2.s y.1) = some (pouts'.map fun x => some (.adr (.box x.1) [(0,0)] x.2.length 0))) (hp3 : (zGZ T rs ios st).map (fun x => pouts'.map fun y => lk x.2.b y.1) = some (pouts'.map fun x => some x.2))
  (e1 : rets' = rets) (e2 : iout' = iout) (e3 : pouts' = pouts) : Fin T rs args ios rets iout pouts st := by
 subst e1; subst e2; subst e3
 cases hf : zGZ T rs ios st with
 | none => rw [hf] at h; cases h
 | some x =>
  obtain ⟨l,st2⟩ := x
  rw [hf] at h hp2 hp3
  simp only [Option.map_some,Option.some.injEq] at h hp2 hp3
  subst h
  unfold zGZ at hf
  split at hf
  ·rename_i xs st1 h1
   split at hf
   ·rename_i l2 st2' h2
    cases hc : (st2'.lo == st.lo && Nat.ble st.lo st.n) with
    | false => simp [hc] at hf
    | true =>
     simp only [hc,cond_true,Option.some.injEq,Prod.mk.injEq] at hf
     obtain ⟨rfl,rfl⟩ := hf
     rw [Bool.and_eq_true] at hc
     have hlo : st2'.lo = st.lo := eq_of_beq hc.1
     refine ⟨xs,st1,ags,st2',h1,h2,hl,ha,hi,Nat.le_of_ble_eq_true hc.2,hlo,fun i hm => ?_,fun i out hm => ?_⟩
     ·rw [List.all_eq_true] at hio
      have := hio i hm
      rw [Bool.and_eq_true] at this
      refine ⟨Nat.le_of_ble_eq_true this.1,?_⟩
      have h3 := this.2
      unfold zJm at h3
      split at h3
      ·rename_i ag cs e; exact ⟨ag,cs,e⟩
      ·cases h3
     ·rw [List.all_eq_true] at hp1
      have := hp1 _ hm
      rw [Bool.and_eq_true] at this
      have e2 := zBx hp2 _ hm
      have e3 := zBx hp3 _ hm
      refine ⟨⟨by rw [hlo]; exact Nat.le_of_ble_eq_true this.1,e2,e3⟩,?_⟩
      have h3 := this.2
      unfold zI0 at h3
      split at h3
      ·rename_i cs e; exact ⟨cs,e⟩
      ·cases h3
   ·cases hf
  ·cases hf
def finP (k : Nat) (cs : List CV) (t : Nat) : Exit → St → Prop
 | .normal,st | .ret,st => lk st.s t = some (.adr (.box k) [(0,0)] cs.length 0) ∧ lk st.b k = some cs
 | _,_ => False
def zFY (k : Nat) (ω : Own) : Own := fun b => match ω b with
 | some (1 :: i :: y) => if i = k then some (2 :: 0 :: y) else none
 | _ => none
theorem zDU {k : Nat} {ω : Own} {b : Nat} {p : zg} (h : zFY k ω b = some p) : ∃ y,ω b = some (1 :: k :: y) ∧ p = 2 :: 0 :: y := by
 unfold zFY at h
 split at h
 ·rename_i i y hb
  split at h
  ·rename_i hik; subst hik; cases h; exact ⟨y,hb,rfl⟩
  ·cases h
 ·cases h
theorem zG.of_body_ptr {P : Program} {T : Nat → Option TI} (hT : TOk P T) {f : FuncId} {fn : Func} {c : Code} {args : List qe} (hf : P.funcs[f]? = some fn) (hname : (fn.name == "runtime.NumGoroutine") = false) (hb : fn.body = some c)
  (hn : args.length ≤ fn.ntmps) (t k : Nat) (hrs : fn.results = #[.tmp t]) (cs : List CV) (h : ∀ cx,Tr P cx c (zCJ fn.ntmps 0 args) (finP k cs t)) : zG P f args [.ptr cs] [] := by
 refine ⟨⟨fn,hf,hname,by rw [hb]; rfl⟩,fun w Z ω vals hI hs ha => ?_⟩
 refine calls_of_wp hf hb ?_
 refine wp_mono (h _ _ _ _ _ (Rel.init (lo := 0) hI hs hn ha)) fun e a w' ⟨st',Z',ω',hq,hR'⟩ => ?_
 have key : lk st'.s t = some (.adr (.box k) [(0,0)] cs.length 0) ∧ lk st'.b k = some cs → a.defers = [] ∧ ∃ v,(results fn a.tmps).run P w' = .ok v w' ∧ ∃ v' Z2 ω2,Ending.returned v = .returned v' ∧ Inv ⟨w,Z,ω,vals⟩ w' Z2 ω2 ∧ Jb w' Z2 ω2 v' [.ptr cs] ∧
   ∀ i out,(i,out) ∈ ([] : List (Nat × List CV)) → zBY w' Z2 ω2 vals args i out := by
  rintro ⟨h1,h2⟩
  obtain ⟨b,e1,e2⟩ := hR'.hs t _ (zW h1)
  obtain ⟨u,hu⟩ := hR'.hb k cs (zW h2)
  have e1 : ω' b = some [1,k,0] := by simpa [zE.path,spine,zf] using e1
  have hsub : ∀ b p,zFY k ω' b = some p → ∃ q,ω' b = some q := fun b p hb => by obtain ⟨y,h1,_⟩ := zDU hb; exact ⟨_,h1⟩
  refine ⟨hR'.df,a.tmps.getD t undef,?_,_,Z',zFY k ω',rfl,?_,⟨b,by rw [e2]; simp [zf],by simp [zFY,e1],u,?_⟩,fun i out hm => by cases hm⟩
  ·have := zED (P := P) (fn := fn) (tm := a.tmps) (w := w') (us := [a.tmps.getD t undef]) (by rw [hrs]; simp [zBj])
   rw [this]
   simp
  ·refine { hR'.inv with wold := fun b p hb => ?_,disj := fun b p hz hb => ?_,inj := fun b b' p h1 h2 => ?_,lt := fun b p hb => ?_ }
   ·obtain ⟨q,hq⟩ := hsub b p hb; exact hR'.inv.wold b q hq
   ·obtain ⟨q,hq⟩ := hsub b p hb; exact hR'.inv.disj b q hz hq
   ·obtain ⟨y,k1,k2⟩ := zDU h1
    obtain ⟨y',k3,k4⟩ := zDU h2
    rw [k2] at k4
    cases k4
    exact hR'.inv.inj _ _ _ k1 k3
   ·obtain ⟨q,hq⟩ := hsub b p hb; exact hR'.inv.lt b q hq
  ·refine hu.conv _ (fun b hb => ⟨hb,rfl⟩) fun b r hb => ⟨?_,rfl⟩
   simp only [List.cons_append,List.nil_append] at hb ⊢
   simp [zFY,hb]
 cases e with
 | normal => exact key hq
 | ret => exact key hq
 | _ => exact hq.elim
end Go.TL
