import Derived.Test.YtcegokjpmppdbaaTlU2
set_option linter.unusedVariables false
namespace Go.TL
theorem bifT {α : Type} {c : Bool} {x y : Option α} {r : Option α} (h : c = true) (H : (bif c then x else y) = r) : x = r := by rw [h] at H; exact H
theorem bifF {α : Type} {c : Bool} {x y : Option α} {r : Option α} (h : c = false) (H : (bif c then x else y) = r) : y = r := by rw [h] at H; exact H
def callLB (T : Nat → Option TI) (ms : List Mode) (as : List Operand) (ats : List TypeId) (d : Option Nat) (rets : List Ret) (outs : List (Nat × List CV)) (st : St) : Option (List PArg × List Root × St) := match preS T ms as ats st with
 | some (ps,brs,ld,st1) => match postS st1 ld outs d rets with
  | some st3 => some (ps,brs,st3)
  | none => none
 | none => none
def callLSt (T : Nat → Option TI) (ms : List Mode) (as : List Operand) (ats : List TypeId) (d : Option Nat) (rets : List Ret) (outs : List (Nat × List CV)) (st : St) : St := match callLB T ms as ats d rets outs st with
 | some x => x.2.2
 | none => st
theorem LAt.callL {P : Program} {cx : Cx} {T : Nat → Option TI} (hT : TOk P T) {ops : Array Oper} {i : Nat} {st : St} {K : St → Prop} (ms : List Mode) {f : FuncId} {av : Array Operand} {ats : Array TypeId} {d : Option Nat} {ty : TypeId} {g : Option (Nat × Bool)}
  (hop : opAt ops i = some (.call { callee := .value (.func f),args := av,argTypes := ats },d,ty,g)) (hg : gdT ops st g = true) (hd : (match d with | some d => okDb st d | none => true) = true) {ps : List PArg} (brs : List Root) {rets : List Ret} {outs : List (Nat × List CV)}
  (hL : LCall P f ps rets outs) (hq : (callLB T ms av.toList ats.toList d rets outs st).map (fun x => (x.1,x.2.1)) = some (ps,brs)) (hmine : brs = [] ∨ ((∀ r ∈ rets,r.mine) ∧ ∀ i out,(i,out) ∈ outs → CV.mineRow out)) (hk : LAt P cx ops (i + 1) (callLSt T ms av.toList ats.toList d rets outs st) K) : LAt P cx ops i st K := by
 unfold callLSt at hk
 cases hc : callLB T ms av.toList ats.toList d rets outs st with
 | none => rw [hc] at hq; cases hq
 | some x =>
  obtain ⟨ps',brs',st3⟩ := x
  rw [hc] at hq hk
  cases hq
  unfold callLB at hc
  split at hc
  ·rename_i ps1 brs1 ld st1 hpre
   split at hc
   ·rename_i st3' hpost
    cases hc
    exact LAt.call hT hop hg hd ms hL hpre hmine hpost hk
   ·cases hc
  ·cases hc
def boxKS (T : Nat → Option TI) (st : St) (t : TypeId) (x d : Nat) : Option St := match lk st.s x with
 | some (.val ag cs) => match takeS T st t (.tmp x) with
  | some tk => bif okDb tk.st d && !(x == d) then some { tk.st.newBox d tk.cs with s := (x,.ref (.box d) [(0,0)] cs.length 0 cs.length ag) :: (tk.st.newBox d tk.cs).s } else none
  | none => none
 | _ => none
def boxKSt (T : Nat → Option TI) (st : St) (t : TypeId) (x d : Nat) : St := match boxKS T st t x d with
 | some s => s
 | none => st
theorem LAt.boxK {P : Program} {cx : Cx} {T : Nat → Option TI} {ops : Array Oper} {n : Nat} {st : St} {K : St → Prop} {t ty : TypeId} {x d : Nat} {g : Option (Nat × Bool)} (ag : Bool) (cs : List CV)
  (hop : opAt ops n = some (.box t (.tmp x),some d,ty,g)) (hg : gdT ops st g = true) (hd : okDb st d = true) (hl : lk st.s x = some (.val ag cs)) (hx : (takeS T st t (.tmp x)).map (fun tk => tk.cs) = some cs) (hb : (boxKS T st t x d).isSome = true) (hk : LAt P cx ops (n + 1) (boxKSt T st t x d) K) : LAt P cx ops n st K := by
 unfold boxKSt at hk
 cases hc : boxKS T st t x d with
 | none => rw [hc] at hb; cases hb
 | some s =>
  rw [hc] at hk
  unfold boxKS at hc
  rw [hl] at hc
  simp only at hc
  cases htk : takeS T st t (.tmp x) with
  | none => rw [htk] at hx; cases hx
  | some tk =>
   rw [htk] at hx hc
   simp only [Option.map_some,Option.some.injEq] at hx
   simp only at hc
   cases hq : (okDb tk.st d && !(x == d)) with
   | false => rw [hq] at hc; cases hc
   | true =>
    rw [hq] at hc
    simp only [cond_true,Option.some.injEq] at hc
    subst hc
    simp only [Bool.and_eq_true,Bool.not_eq_true',beq_eq_false_iff_ne] at hq
    exact LAt.stepG hop hg hd (fun o ho hdst _ => op_boxK ho hdst hl htk hx (okDb_iff hq.1) hq.2) hk
theorem LAt.eqSG {P : Program} {cx : Cx} {ops : Array Oper} {i : Nat} {st : St} {K : St → Prop} (neg : Bool) {t ty ty' : TypeId} {x y : Operand} {d : Nat} {g : Option (Nat × Bool)} (b : Bool) (st' : St) (hop : opAt ops i = some (.binOp (bif neg then .neq else .eql) t x y ty,some d,ty',g)) (hg : gdT ops st g = true) (hd : okDb st d = true)
  (hb : TL.eqS P st t x y = some b) (hst : st.put d (.val false [.lit (.bool (bif neg then !b else b))]) = st') (hk : LAt P cx ops (i + 1) st' K) : LAt P cx ops i st K := by
 subst hst
 exact LAt.stepG hop hg hd (fun o ho hdst _ => op_eqS ho hdst hd hb) hk
def cutL (st : St) : Option Operand → Option Int
 | none => some 0
 | some y => match litS st y with
  | some (.int _ i) => some i
  | _ => none
def cutH (st : St) (len : Nat) : Option Operand → Option Int
 | none => some len
 | some y => match litS st y with
  | some (.int _ i) => some i
  | _ => none
theorem cutL_some {st : St} {y : Operand} {l : Int} (h : cutL st (some y) = some l) (h0 : 0 ≤ l) : ∃ k,litS st y = some (.int k (l.toNat : Int)) := by
 unfold cutL at h
 simp only at h
 split at h
 ·rename_i k i hy
  cases h
  exact ⟨k,by rw [hy,Int.toNat_of_nonneg h0]⟩
 ·cases h
theorem cutH_some {st : St} {y : Operand} {len : Nat} {l : Int} (h : cutH st len (some y) = some l) (h0 : 0 ≤ l) : ∃ k,litS st y = some (.int k (l.toNat : Int)) := by
 unfold cutH at h
 simp only at h
 split at h
 ·rename_i k i hy
  cases h
  exact ⟨k,by rw [hy,Int.toNat_of_nonneg h0]⟩
 ·cases h
theorem LAt.cutG {P : Program} {cx : Cx} {T : Nat → Option TI} (hT : TOk P T) {ops : Array Oper} {n : Nat} {st : St} {K : St → Prop} {t ty e : TypeId} {x : Operand} {lo hi : Option Operand} {d : Nat} {g : Option (Nat × Bool)} (ie : TI) {α : Type} (row : α → List CV) (X : List α) (s : SlAt) (l h : Int)
  (hop : opAt ops n = some (.slice t x lo hi none,some d,ty,g)) (hg : gdT ops st g = true) (hd : okDb st d = true) (ht : isSl T t = some e) (he : T e = some ie) (hx : slS st x = some s) (hown : s.own = false) (hsz : Nat.beq s.sz ie.size = true) (hes : s.es = CV.frzEs (X.map row))
  (hl : cutL st lo = some l) (hh : cutH st X.length hi = some h) (hG : (decide (0 ≤ l) && (decide (l ≤ h) && decide (h ≤ (X.length : Int)))) = true) (hk : LAt P cx ops (n + 1) (st.put d (.val false [.sl false s.sz (CV.frzEs (((X.drop l.toNat).take (h.toNat - l.toNat)).map row))])) K) : LAt P cx ops n st K := by
 rw [Bool.and_eq_true,Bool.and_eq_true,decide_eq_true_eq,decide_eq_true_eq,decide_eq_true_eq] at hG
 have hlen : s.es.length = X.length := by rw [hes,CV.frzEs_length,List.length_map]
 have hcut : CV.frzEs (((X.drop l.toNat).take (h.toNat - l.toNat)).map row) = (s.es.drop l.toNat).take (h.toNat - l.toNat) := by
  rw [hes,CV.frzEs_eq,CV.frzEs_eq,List.map_take,List.map_drop,List.map_take,List.map_drop]
 rw [hcut] at hk
 have hsz := Nat.eq_of_beq_eq_true hsz
 refine LAt.stepG hop hg hd (fun o ho hdst _ => ?_) hk
 have h1 : l.toNat ≤ h.toNat := by omega
 have h2 : h.toNat ≤ s.es.length := by rw [hlen]; omega
 cases lo with
 | none =>
  have hl0 : l.toNat = 0 := by have : (0 : Int) = l := Option.some.inj hl; omega
  cases hi with
  | none =>
   have hh0 : h.toNat = s.es.length := by have : (X.length : Int) = h := Option.some.inj hh; omega
   exact op_cutF hT ho hdst ht he (okDb_iff hd) hx hown hsz hl0 hh0 h1 h2
  | some y => exact op_cutF hT ho hdst ht he (okDb_iff hd) hx hown hsz hl0 (cutH_some hh (by omega)) h1 h2
 | some x2 =>
  cases hi with
  | none =>
   have hh0 : h.toNat = s.es.length := by have : (X.length : Int) = h := Option.some.inj hh; omega
   exact op_cutF hT ho hdst ht he (okDb_iff hd) hx hown hsz (cutL_some hl hG.1) hh0 h1 h2
  | some y => exact op_cutF hT ho hdst ht he (okDb_iff hd) hx hown hsz (cutL_some hl hG.1) (cutH_some hh (by omega)) h1 h2
def finY (T : Nat → Option TI) (rs : List ResultVar) (ios : List Nat) (st : St) : Option (List (Option (Bool × List CV)) × St) := match finS T st.n rs st.n { st with n := st.n + rs.length } with
 | some (xs,st1) => match consS T ((xs ++ ios.map Operand.tmp).map fun x => (Mode.own,0,x)) 0 st1 with
  | some (l,st2) => bif st2.lo == st.lo && Nat.ble st.lo st.n then some (l,st2) else none
  | none => none
 | none => none
def isIo (args : List PArg) (i : Nat) : Bool := match args[i]? with
 | some (.io _ _) => true
 | _ => false
def isPtr (args : List PArg) (i : Nat) : Bool := match args[i]? with
 | some (.ptr _) => true
 | _ => false
theorem Fin.ofY {T : Nat → Option TI} {rs : List ResultVar} {args : List PArg} {ios : List Nat} {st : St} (rets rets' : List (Bool × List CV)) (ags : List Bool) (iout iout' : List (List CV)) (pouts pouts' : List (Nat × List CV))
  (h : (finY T rs ios st).map (fun x => x.1) = some ((rets' ++ List.zip ags iout').map some)) (hl : rets'.length = rs.length) (ha : ags.length = ios.length) (hi : iout'.length = ios.length) (hio : (ios.all fun i => Nat.blt i st.lo && isIo args i) = true)
  (hp1 : (pouts'.all fun x => Nat.blt x.1 st.lo && isPtr args x.1) = true) (hp2 : (finY T rs ios st).map (fun x => pouts'.map fun y => lk x.2.s y.1) = some (pouts'.map fun x => some (.adr (.box x.1) [(0,0)] x.2.length 0))) (hp3 : (finY T rs ios st).map (fun x => pouts'.map fun y => lk x.2.b y.1) = some (pouts'.map fun x => some x.2))
  (e1 : rets' = rets) (e2 : iout' = iout) (e3 : pouts' = pouts) : Fin T rs args ios rets iout pouts st := by
 subst e1; subst e2; subst e3
 cases hf : finY T rs ios st with
 | none => rw [hf] at h; cases h
 | some x =>
  obtain ⟨l,st2⟩ := x
  rw [hf] at h hp2 hp3
  simp only [Option.map_some,Option.some.injEq] at h hp2 hp3
  subst h
  unfold finY at hf
  split at hf
  ·rename_i xs st1 h1
   split at hf
   ·rename_i l2 st2' h2
    cases hc : (st2'.lo == st.lo && Nat.ble st.lo st.n) with
    | false => simp [hc] at hf
    | true =>
     simp only [hc,cond_true,Option.some.injEq,Prod.mk.injEq] at hf
     obtain ⟨rfl,rfl⟩ := hf
     rw [Bool.and_eq_true] at hc
     have hlo : st2'.lo = st.lo := eq_of_beq hc.1
     refine ⟨xs,st1,ags,st2',h1,h2,hl,ha,hi,Nat.le_of_ble_eq_true hc.2,hlo,fun i hm => ?_,fun i out hm => ?_⟩
     ·rw [List.all_eq_true] at hio
      have := hio i hm
      rw [Bool.and_eq_true] at this
      refine ⟨Nat.le_of_ble_eq_true this.1,?_⟩
      have h3 := this.2
      unfold isIo at h3
      split at h3
      ·rename_i ag cs e; exact ⟨ag,cs,e⟩
      ·cases h3
     ·rw [List.all_eq_true] at hp1
      have := hp1 _ hm
      rw [Bool.and_eq_true] at this
      have e2 := map_eq_at hp2 _ hm
      have e3 := map_eq_at hp3 _ hm
      refine ⟨⟨by rw [hlo]; exact Nat.le_of_ble_eq_true this.1,e2,e3⟩,?_⟩
      have h3 := this.2
      unfold isPtr at h3
      split at h3
      ·rename_i cs e; exact ⟨cs,e⟩
      ·cases h3
   ·cases hf
  ·cases hf
def finP (k : Nat) (cs : List CV) (t : Nat) : Exit → St → Prop
 | .normal,st | .ret,st => lk st.s t = some (.adr (.box k) [(0,0)] cs.length 0) ∧ lk st.b k = some cs
 | _,_ => False
def relP (k : Nat) (ω : Own) : Own := fun b => match ω b with
 | some (1 :: i :: y) => if i = k then some (2 :: 0 :: y) else none
 | _ => none
theorem relP_some {k : Nat} {ω : Own} {b : Nat} {p : Path} (h : relP k ω b = some p) : ∃ y,ω b = some (1 :: k :: y) ∧ p = 2 :: 0 :: y := by
 unfold relP at h
 split at h
 ·rename_i i y hb
  split at h
  ·rename_i hik; subst hik; cases h; exact ⟨y,hb,rfl⟩
  ·cases h
 ·cases h
theorem LCall.of_body_ptr {P : Program} {T : Nat → Option TI} (hT : TOk P T) {f : FuncId} {fn : Func} {c : Code} {args : List PArg} (hf : P.funcs[f]? = some fn) (hname : (fn.name == "runtime.NumGoroutine") = false) (hb : fn.body = some c)
  (hn : args.length ≤ fn.ntmps) (t k : Nat) (hrs : fn.results = #[.tmp t]) (cs : List CV) (h : ∀ cx,Tr P cx c (initSt fn.ntmps 0 args) (finP k cs t)) : LCall P f args [.ptr cs] [] := by
 refine ⟨⟨fn,hf,hname,by rw [hb]; rfl⟩,fun w Z ω vals hI hs ha => ?_⟩
 refine calls_of_wp hf hb ?_
 refine wp_mono (h _ _ _ _ _ (Rel.init (lo := 0) hI hs hn ha)) fun e a w' ⟨st',Z',ω',hq,hR'⟩ => ?_
 have key : lk st'.s t = some (.adr (.box k) [(0,0)] cs.length 0) ∧ lk st'.b k = some cs → a.defers = [] ∧ ∃ v,(results fn a.tmps).run P w' = .ok v w' ∧ ∃ v' Z2 ω2,Ending.returned v = .returned v' ∧ Inv ⟨w,Z,ω,vals⟩ w' Z2 ω2 ∧ RetRel w' Z2 ω2 v' [.ptr cs] ∧
   ∀ i out,(i,out) ∈ ([] : List (Nat × List CV)) → OutRel w' Z2 ω2 vals args i out := by
  rintro ⟨h1,h2⟩
  obtain ⟨b,e1,e2⟩ := hR'.hs t _ (mem_of_lk h1)
  obtain ⟨u,hu⟩ := hR'.hb k cs (mem_of_lk h2)
  have e1 : ω' b = some [1,k,0] := by simpa [Root.path,spine,lastI] using e1
  have hsub : ∀ b p,relP k ω' b = some p → ∃ q,ω' b = some q := fun b p hb => by obtain ⟨y,h1,_⟩ := relP_some hb; exact ⟨_,h1⟩
  refine ⟨hR'.df,a.tmps.getD t undef,?_,_,Z',relP k ω',rfl,?_,⟨b,by rw [e2]; simp [lastI],by simp [relP,e1],u,?_⟩,fun i out hm => by cases hm⟩
  ·have := results_run (P := P) (fn := fn) (tm := a.tmps) (w := w') (us := [a.tmps.getD t undef]) (by rw [hrs]; simp [resRun])
   rw [this]
   simp
  ·refine { hR'.inv with wold := fun b p hb => ?_,disj := fun b p hz hb => ?_,inj := fun b b' p h1 h2 => ?_,lt := fun b p hb => ?_ }
   ·obtain ⟨q,hq⟩ := hsub b p hb; exact hR'.inv.wold b q hq
   ·obtain ⟨q,hq⟩ := hsub b p hb; exact hR'.inv.disj b q hz hq
   ·obtain ⟨y,k1,k2⟩ := relP_some h1
    obtain ⟨y',k3,k4⟩ := relP_some h2
    rw [k2] at k4
    cases k4
    exact hR'.inv.inj _ _ _ k1 k3
   ·obtain ⟨q,hq⟩ := hsub b p hb; exact hR'.inv.lt b q hq
  ·refine hu.conv _ (fun b hb => ⟨hb,rfl⟩) fun b r hb => ⟨?_,rfl⟩
   simp only [List.cons_append,List.nil_append] at hb ⊢
   simp [relP,hb]
 cases e with
 | normal => exact key hq
 | ret => exact key hq
 | _ => exact hq.elim
end Go.TL
