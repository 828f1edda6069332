import Derived.Test.YtcegokjpmppdbaaGreatTlU2
set_option linter.unusedVariables false
namespace Go.TL
theorem zH {α : Type} {c : Bool} {x y : Option α} {r : Option α} (h : c = true) (H : (bif c then x else y) = r) : x = r := by rw [h] at H; exact H
theorem zG {α : Type} {c : Bool} {x y : Option α} {r : Option α} (h : c = false) (H : (bif c then x else y) = r) : y = r := by rw [h] at H; exact H
def zH2 (T : Nat → Option TI) (ms : List Mode) (as : List Operand) (ats : List TypeId) (d : Option Nat) (rets : List Ret) (outs : List (Nat × List CV)) (st : St) : Option (List qS × List zE × St) := match zHg T ms as ats st with
 | some (ps,brs,ld,st1) => match zIT st1 ld outs d rets with
  | some st3 => some (ps,brs,st3)
  | none => none
 | none => none
def zLn (T : Nat → Option TI) (ms : List Mode) (as : List Operand) (ats : List TypeId) (d : Option Nat) (rets : List Ret) (outs : List (Nat × List CV)) (st : St) : St := match zH2 T ms as ats d rets outs st with
 | some x => x.2.2
 | none => st
theorem LAt.callL {P : Program} {cx : Cx} {T : Nat → Option TI} (hT : TOk P T) {ops : Array Oper} {i : Nat} {st : St} {K : St → Prop} (ms : List Mode) {f : FuncId} {av : Array Operand} {ats : Array TypeId} {d : Option Nat} {ty : TypeId} {g : Option (Nat × Bool)}
  (hop : opAt ops i = some (.call { callee := .value (.func f),args := av,argTypes := ats },d,ty,g)) (hg : gdT ops st g = true) (hd : (match d with | some d => zY st d | none => true) = true) {ps : List qS} (brs : List zE) {rets : List Ret} {outs : List (Nat × List CV)}
  (hL : zD P f ps rets outs) (hq : (zH2 T ms av.toList ats.toList d rets outs st).map (fun x => (x.1,x.2.1)) = some (ps,brs)) (hmine : brs = [] ∨ ((∀ r ∈ rets,r.mine) ∧ ∀ i out,(i,out) ∈ outs → CV.mineRow out)) (hk : LAt P cx ops (i + 1) (zLn T ms av.toList ats.toList d rets outs st) K) : LAt P cx ops i st K := by
 unfold zLn at hk
 cases hc : zH2 T ms av.toList ats.toList d rets outs st with
 | none => rw [hc] at hq; cases hq
 | some x =>
  obtain ⟨ps',brs',st3⟩ := x
  rw [hc] at hq hk
  cases hq
  unfold zH2 at hc
  split at hc
  ·rename_i ps1 brs1 ld st1 hpre
   split at hc
   ·rename_i st3' hpost
    cases hc
    exact LAt.call hT hop hg hd ms hL hpre hmine hpost hk
   ·cases hc
  ·cases hc
def zKD (T : Nat → Option TI) (st : St) (t : TypeId) (x d : Nat) : Option St := match lk st.s x with
 | some (.val ag cs) => match qK T st t (.tmp x) with
  | some tk => bif zY tk.st d && !(x == d) then some { tk.st.newBox d tk.cs with s := (x,.ref (.box d) [(0,0)] cs.length 0 cs.length ag) :: (tk.st.newBox d tk.cs).s } else none
  | none => none
 | _ => none
def zMl (T : Nat → Option TI) (st : St) (t : TypeId) (x d : Nat) : St := match zKD T st t x d with
 | some s => s
 | none => st
theorem LAt.boxK {P : Program} {cx : Cx} {T : Nat → Option TI} {ops : Array Oper} {n : Nat} {st : St} {K : St → Prop} {t ty : TypeId} {x d : Nat} {g : Option (Nat × Bool)} (ag : Bool) (cs : List CV)
  (hop : opAt ops n = some (.box t (.tmp x),some d,ty,g)) (hg : gdT ops st g = true) (hd : zY st d = true) (hl : lk st.s x = some (.val ag cs)) (hx : (qK T st t (.tmp x)).map (fun tk => tk.cs) = some cs) (hb : (zKD T st t x d).isSome = true) (hk : LAt P cx ops (n + 1) (zMl T st t x d) K) : LAt P cx ops n st K := by
 unfold zMl at hk
 cases hc : zKD T st t x d with
 | none => rw [hc] at hb; cases hb
 | some s =>
  rw [hc] at hk
  unfold zKD at hc
  rw [hl] at hc
  simp only at hc
  cases htk : qK T st t (.tmp x) with
  | none => rw [htk] at hx; cases hx
  | some tk =>
   rw [htk] at hx hc
   simp only [Option.map_some,Option.some.injEq] at hx
   simp only at hc
   cases hq : (zY tk.st d && !(x == d)) with
   | false => rw [hq] at hc; cases hc
   | true =>
    rw [hq] at hc
    simp only [cond_true,Option.some.injEq] at hc
    subst hc
    simp only [Bool.and_eq_true,Bool.not_eq_true',beq_eq_false_iff_ne] at hq
    exact LAt.stepG hop hg hd (fun o ho hdst _ => zN1 ho hdst hl htk hx (zi hq.1) hq.2) hk
theorem LAt.eqSG {P : Program} {cx : Cx} {ops : Array Oper} {i : Nat} {st : St} {K : St → Prop} (neg : Bool) {t ty ty' : TypeId} {x y : Operand} {d : Nat} {g : Option (Nat × Bool)} (b : Bool) (st' : St) (hop : opAt ops i = some (.binOp (bif neg then .neq else .eql) t x y ty,some d,ty',g)) (hg : gdT ops st g = true) (hd : zY st d = true)
  (hb : TL.eqS P st t x y = some b) (hst : st.put d (.val false [.lit (.bool (bif neg then !b else b))]) = st') (hk : LAt P cx ops (i + 1) st' K) : LAt P cx ops i st K := by
 subst hst
 exact LAt.stepG hop hg hd (fun o ho hdst _ => zOw ho hdst hd hb) hk
def zNM (st : St) : Option Operand → Option Int
 | none => some 0
 | some y => match zh st y with
  | some (.int _ i) => some i
  | _ => none
def zNL (st : St) (len : Nat) : Option Operand → Option Int
 | none => some len
 | some y => match zh st y with
  | some (.int _ i) => some i
  | _ => none
theorem zJY {st : St} {y : Operand} {l : Int} (h : zNM st (some y) = some l) (h0 : 0 ≤ l) : ∃ k,zh st y = some (.int k (l.toNat : Int)) := by
 unfold zNM at h
 simp only at h
 split at h
 ·rename_i k i hy
  cases h
  exact ⟨k,by rw [hy,Int.toNat_of_nonneg h0]⟩
 ·cases h
theorem zJX {st : St} {y : Operand} {len : Nat} {l : Int} (h : zNL st len (some y) = some l) (h0 : 0 ≤ l) : ∃ k,zh st y = some (.int k (l.toNat : Int)) := by
 unfold zNL at h
 simp only at h
 split at h
 ·rename_i k i hy
  cases h
  exact ⟨k,by rw [hy,Int.toNat_of_nonneg h0]⟩
 ·cases h
theorem LAt.cutG {P : Program} {cx : Cx} {T : Nat → Option TI} (hT : TOk P T) {ops : Array Oper} {n : Nat} {st : St} {K : St → Prop} {t ty e : TypeId} {x : Operand} {lo hi : Option Operand} {d : Nat} {g : Option (Nat × Bool)} (ie : TI) {α : Type} (row : α → List CV) (X : List α) (s : Qr) (l h : Int)
  (hop : opAt ops n = some (.slice t x lo hi none,some d,ty,g)) (hg : gdT ops st g = true) (hd : zY st d = true) (ht : ZO T t = some e) (he : T e = some ie) (hx : slS st x = some s) (hown : s.own = false) (hsz : Nat.beq s.sz ie.size = true) (hes : s.es = CV.frzEs (X.map row))
  (hl : zNM st lo = some l) (hh : zNL st X.length hi = some h) (hG : (decide (0 ≤ l) && (decide (l ≤ h) && decide (h ≤ (X.length : Int)))) = true) (hk : LAt P cx ops (n + 1) (st.put d (.val false [.sl false s.sz (CV.frzEs (((X.drop l.toNat).take (h.toNat - l.toNat)).map row))])) K) : LAt P cx ops n st K := by
 rw [Bool.and_eq_true,Bool.and_eq_true,decide_eq_true_eq,decide_eq_true_eq,decide_eq_true_eq] at hG
 have hlen : s.es.length = X.length := by rw [hes,CV.frzEs_length,List.length_map]
 have hcut : CV.frzEs (((X.drop l.toNat).take (h.toNat - l.toNat)).map row) = (s.es.drop l.toNat).take (h.toNat - l.toNat) := by
  rw [hes,CV.frzEs_eq,CV.frzEs_eq,List.map_take,List.map_drop,List.map_take,List.map_drop]
 rw [hcut] at hk
 have hsz := Nat.eq_of_beq_eq_true hsz
 refine LAt.stepG hop hg hd (fun o ho hdst _ => ?_) hk
 have h1 : l.toNat ≤ h.toNat := by omega
 have h2 : h.toNat ≤ s.es.length := by rw [hlen]; omega
 cases lo with
 | none =>
  have hl0 : l.toNat = 0 := by have : (0 : Int) = l := Option.some.inj hl; omega
  cases hi with
  | none =>
   have hh0 : h.toNat = s.es.length := by have : (X.length : Int) = h := Option.some.inj hh; omega
   exact zGY hT ho hdst ht he (zi hd) hx hown hsz hl0 hh0 h1 h2
  | some y => exact zGY hT ho hdst ht he (zi hd) hx hown hsz hl0 (zJX hh (by omega)) h1 h2
 | some x2 =>
  cases hi with
  | none =>
   have hh0 : h.toNat = s.es.length := by have : (X.length : Int) = h := Option.some.inj hh; omega
   exact zGY hT ho hdst ht he (zi hd) hx hown hsz (zJY hl hG.1) hh0 h1 h2
  | some y => exact zGY hT ho hdst ht he (zi hd) hx hown hsz (zJY hl hG.1) (zJX hh (by omega)) h1 h2
def zKT (T : Nat → Option TI) (rs : List ResultVar) (ios : List Nat) (st : St) : Option (List (Option (Bool × List CV)) × St) := match zE9 T st.n rs st.n { st with n := st.n + rs.length } with
 | some (xs,st1) => match QX T ((xs ++ ios.map Operand.tmp).map fun x => (Mode.own,0,x)) 0 st1 with
  | some (l,st2) => bif st2.lo == st.lo && Nat.ble st.lo st.n then some (l,st2) else none
  | none => none
 | none => none
def zOr (args : List qS) (i : Nat) : Bool := match args[i]? with
 | some (.io _ _) => true
 | _ => false
def zNl (args : List qS) (i : Nat) : Bool := match args[i]? with
 | some (.ptr _) => true
 | _ => false
theorem Fin.ofY {T : Nat → Option TI} {rs : List ResultVar} {args : List qS} {ios : List Nat} {st : St} (rets rets' : List (Bool × List CV)) (ags : List Bool) (iout iout' : List (List CV)) (pouts pouts' : List (Nat × List CV))
  (h : (zKT T rs ios st).map (fun x => x.1) = some ((rets' ++ List.zip ags iout').map some)) (hl : rets'.length = rs.length) (ha : ags.length = ios.length) (hi : iout'.length = ios.length) (hio : (ios.all fun i => Nat.blt i st.lo && zOr args i) = true)
  (hp1 : (pouts'.all fun x => Nat.blt x.1 st.lo && zNl args x.1) = true) (hp2 : (zKT T rs ios st).map (fun x => pouts'.map fun y => lk x.2.s y.1) = some (pouts'.map fun x => some (.adr (.box x.1) [(0,0)] x.2.length 0))) (hp3 : (zKT T rs ios st).map (fun x => pouts'.map fun y => lk x.2.b y.1) = some (pouts'.map fun x => some x.2))
  (e1 : rets' = rets) (e2 : iout' = iout) (e3 : pouts' = pouts) : Fin T rs args ios rets iout pouts st := by
 subst e1; subst e2; subst e3
 cases hf : zKT T rs ios st with
 | none => rw [hf] at h; cases h
 | some x =>
  obtain ⟨l,st2⟩ := x
  rw [hf] at h hp2 hp3
  simp only [Option.map_some,Option.some.injEq] at h hp2 hp3
  subst h
  unfold zKT at hf
  split at hf
  ·rename_i xs st1 h1
   split at hf
   ·rename_i l2 st2' h2
    cases hc : (st2'.lo == st.lo && Nat.ble st.lo st.n) with
    | false => simp [hc] at hf
    | true =>
     simp only [hc,cond_true,Option.some.injEq,Prod.mk.injEq] at hf
     obtain ⟨rfl,rfl⟩ := hf
     rw [Bool.and_eq_true] at hc
     have hlo : st2'.lo = st.lo := eq_of_beq hc.1
     refine ⟨xs,st1,ags,st2',h1,h2,hl,ha,hi,Nat.le_of_ble_eq_true hc.2,hlo,fun i hm => ?_,fun i out hm => ?_⟩
     ·rw [List.all_eq_true] at hio
      have := hio i hm
      rw [Bool.and_eq_true] at this
      refine ⟨Nat.le_of_ble_eq_true this.1,?_⟩
      have h3 := this.2
      unfold zOr at h3
      split at h3
      ·rename_i ag cs e; exact ⟨ag,cs,e⟩
      ·cases h3
     ·rw [List.all_eq_true] at hp1
      have := hp1 _ hm
      rw [Bool.and_eq_true] at this
      have e2 := zET hp2 _ hm
      have e3 := zET hp3 _ hm
      refine ⟨⟨by rw [hlo]; exact Nat.le_of_ble_eq_true this.1,e2,e3⟩,?_⟩
      have h3 := this.2
      unfold zNl at h3
      split at h3
      ·rename_i cs e; exact ⟨cs,e⟩
      ·cases h3
   ·cases hf
  ·cases hf
def relP (k : Nat) (ω : Own) : Own := fun b => match ω b with
 | some (1 :: i :: y) => if i = k then some (2 :: 0 :: y) else none
 | _ => none
def zKE (k : Nat) : SV → Bool
 | .ref r q _ _ _ _ | .adr r q _ _ => !(r.eqb (.box k)) || (match q with | [(0,0)] => true | _ => false)
 | _ => true
end Go.TL
