import Derived.Test.YtajadnlejdpceaaTlF
set_option linter.unusedVariables false
namespace Go.TL
def strip : zU → zU → Option zU
 | [],p => some p
 | x :: S,y :: p => if x = y then strip S p else none
 | _ :: _,[] => none
theorem Yw : ∀ {S p r : zU},strip S p = some r ↔ p = S ++ r
 | [],p,r => by simp [strip]
 | x :: S,[],r => by simp [strip]
 | x :: S,y :: p,r => by
  simp only [strip]
  split
  ·rename_i h; subst h; rw [Yw]; simp
  ·rename_i h; simp; intro h2; exact absurd h2.symm h
def inR (S : zU) (o n : Nat) (p : zU) : Option (Nat × zU) := match strip S p with
 | some (k :: r) => if o ≤ k ∧ k < o + n then some (k - o,r) else none
 | _ => none
theorem Q0 {S : zU} {o n : Nat} {p : zU} {j : Nat} {r : zU} : inR S o n p = some (j,r) ↔ p = S ++ (o + j) :: r ∧ j < n := by
 unfold inR
 split
 ·rename_i k r' h
  rw [Yw] at h
  subst h
  split
  ·rename_i hk
   constructor
   ·intro h; cases h; exact ⟨by rw [show o + (k - o) = k by omega],by omega⟩
   ·rintro ⟨h1,h2⟩
    have h3 := List.append_cancel_left h1
    have h4 := (List.cons.inj h3).1
    have h5 := (List.cons.inj h3).2
    subst h5
    simp only [Option.some.injEq,Prod.mk.injEq,and_true]
    omega
  ·rename_i hk
   constructor
   ·intro h; cases h
   ·rintro ⟨h1,h2⟩
    have h3 := List.append_cancel_left h1
    have h4 := (List.cons.inj h3).1
    omega
 ·rename_i h
  constructor
  ·intro h; cases h
  ·rintro ⟨h1,h2⟩
   exact absurd (Yw.2 h1) (h _ _)
theorem zW {S : zU} {o n : Nat} {p : zU} (h : ∀ j r,p = S ++ (o + j) :: r → ¬ j < n) : inR S o n p = none := by
 cases hh : inR S o n p with
 | none => rfl
 | some x =>
  obtain ⟨j,r⟩ := x
  have := Q0.1 hh
  exact absurd this.2 (h j r this.1)
def ZB (S : zU) (o n : Nat) (D : zU) (o2 : Nat) (ω : Own) : Own := fun b => match ω b with
 | none => none
 | some p => match inR S o n p with
  | some (j,r) => some (D ++ (o2 + j) :: r)
  | none => match inR D o2 n p with
   | some _ => none
   | none => some p
theorem Yo {S D : zU} {o n o2 : Nat} {ω : Own} {b j : Nat} {r : zU} (h : ω b = some (S ++ (o + j) :: r)) (hj : j < n) : ZB S o n D o2 ω b = some (D ++ (o2 + j) :: r) := by
 unfold ZB
 simp only [h,Q0.2 ⟨rfl,hj⟩]
theorem qD {S D : zU} {o n o2 : Nat} {ω : Own} {b : Nat} {p : zU} (h : ω b = some p) (h1 : inR S o n p = none) (h2 : inR D o2 n p = none) : ZB S o n D o2 ω b = some p := by
 unfold ZB
 simp only [h,h1,h2]
theorem zCg {S D : zU} {o n o2 : Nat} {ω : Own} {b : Nat} {p : zU} (h : ZB S o n D o2 ω b = some p) :
  (∃ j r,ω b = some (S ++ (o + j) :: r) ∧ j < n ∧ p = D ++ (o2 + j) :: r) ∨ (ω b = some p ∧ inR D o2 n p = none) := by
 unfold ZB at h
 split at h
 ·cases h
 ·rename_i p0 h0
  split at h
  ·rename_i j r hj
   cases h
   have := Q0.1 hj
   exact .inl ⟨j,r,by rw [h0,this.1],this.2,rfl⟩
  ·split at h
   ·cases h
   ·rename_i h2
    cases h
    exact .inr ⟨h0,h2⟩
theorem zK7 {S D : zU} {o n o2 : Nat} {ω : Own} (hi : ∀ b b' p,ω b = some p → ω b' = some p → b = b') : ∀ b b' p,ZB S o n D o2 ω b = some p → ZB S o n D o2 ω b' = some p → b = b' := by
 intro b b' p h1 h2
 rcases zCg h1 with ⟨j,r,k1,k2,rfl⟩ | ⟨k1,k2⟩
 ·rcases zCg h2 with ⟨j',r',g1,g2,g3⟩ | ⟨g1,g2⟩
  ·have h3 := List.append_cancel_left g3
   have h4 := (List.cons.inj h3).1
   have h5 := (List.cons.inj h3).2
   have : j = j' := by omega
   subst this; subst h5
   exact hi _ _ _ k1 g1
  ·rw [Q0.2 ⟨rfl,k2⟩] at g2; cases g2
 ·rcases zCg h2 with ⟨j',r',g1,g2,rfl⟩ | ⟨g1,g2⟩
  ·rw [Q0.2 ⟨rfl,g2⟩] at k2; cases k2
  ·exact hi _ _ _ k1 g1
theorem Inv.own {cx w Z ω} (h : Inv cx w Z ω) {ω' : Own} (h1 : ∀ b p,ω' b = some p → ∃ p',ω b = some p') (hi : ∀ b b' p,ω' b = some p → ω' b' = some p → b = b') : Inv cx w Z ω' :=
 { h with
  wold := fun b p hb => by obtain ⟨p',h2⟩ := h1 b p hb; exact h.wold b p' h2
  disj := fun b p hz hb => by obtain ⟨p',h2⟩ := h1 b p hb; exact h.disj b p' hz h2
  inj := hi
  lt := fun b p hb => by obtain ⟨p',h2⟩ := h1 b p hb; exact h.lt b p' h2 }
theorem Inv.reloc {cx w Z ω} (h : Inv cx w Z ω) (S : zU) (o n : Nat) (D : zU) (o2 : Nat) : Inv cx w Z (TL.ZB S o n D o2 ω) :=
 h.own (fun b p hb => by rcases zCg hb with ⟨j,r,k1,_⟩ | ⟨k1,_⟩ <;> exact ⟨_,k1⟩) (zK7 h.inj)
theorem zS.modq {w : World} {Z : qM} {ω ω' : Own} {f : List CV → List CV} {bad : Nat → Prop} : ∀ (q : List (Nat × Nat)) (p : zU) (us : List Value) (cs e : List CV),zS w Z ω p us cs → qf cs q = some e → (f e).length = e.length →
  (∀ us',zS w Z ω (p ++ zO q) us' e → zS w Z ω' (p ++ zO q) us' (f e)) →
  (∀ b r,ω b = some (p ++ r) → ¬ (∃ k x,r = zO q ++ k :: x ∧ bad k) → ω' b = some (p ++ r)) → zS w Z ω' p us (ZR f cs q)
 | [],p,us,cs,e,h,hg,hl,hf,hω => by
  simp only [qf,Option.some.injEq] at hg
  subst hg
  simp only [zO,List.append_nil] at hf
  exact hf us h
 | (j,i) :: q,p,us,cs,e,h,hg,hl,hf,hω => by
  obtain ⟨sz,es,e1,h1,h2,h3⟩ := YB hg
  rw [Qp h1 h2]
  refine ⟨by rw [List.length_set]; exact h.1,fun j' c u hc hu => ?_⟩
  by_cases hj : j' = j
  ·subst hj
   have hjl : j' < cs.length := (List.getElem?_eq_some_iff.1 h1).1
   rw [List.getElem?_set_self hjl] at hc
   cases hc
   have hR := h.2 j' _ u h1 hu
   have hne : es ≠ [] := by intro h0; rw [h0] at h2; cases h2
   obtain ⟨b1,cap,us',cur,T,rfl,hω1,hb1,hcap,hm,hcs,hsz,hcc,hr⟩ := hR.own_inv hne
   have hil : i < es.length := (List.getElem?_eq_some_iff.1 h2).1
   have hes : e1.length = sz := hsz e1 (List.mem_of_getElem? h2)
   have hrow := zf.row h2 hr hsz
   have ih := zS.modq (f := f) (ω' := ω') (bad := bad) q _ _ e1 e hrow h3 hl
    (by have := hf; simpa [zO] using this)
    (fun b0 r hb0 hn => by
     have := hω b0 ([j',i] ++ r) (by rw [hb0]; simp) (by
      rintro ⟨k,x,hk,hb⟩
      refine hn ⟨k,x,?_,hb⟩
      simpa [zO] using hk)
     rw [this]; simp)
   have hlen : (es.set i (ZR f e1 q)).length = es.length := List.length_set
   rw [← hlen]
   have hl1 : (ZR f e1 q).length = e1.length := by have := ih.1; simp at this; exact this.symm
   have hsz' : ∀ e ∈ es.set i (ZR f e1 q),e.length = sz := fun e he => by
    rcases List.mem_or_eq_of_mem_set he with he | rfl
    ·exact hsz e he
    ·rw [hl1]; exact hes
   refine .own _ b1 cap sz _ us' cur T ?_ hb1 (by rw [hlen]; exact hcap) hm hcs hsz' ?_ ?_
   ·refine hω b1 [j'] hω1 ?_
    rintro ⟨k,x,hk,_⟩
    simp [zO] at hk
   ·intro i' j2 c hc
    obtain ⟨e',g1,g2⟩ := Zz hc
    by_cases hi : i' = i
    ·subst hi
     rw [List.getElem?_set_self hil] at g1
     cases g1
     have hj2 : j2 < e1.length := by
      have := (List.getElem?_eq_some_iff.1 g2).1
      omega
     exact hcc i' j2 e1[j2] (ZS h2 (List.getElem?_eq_getElem hj2))
    ·rw [List.getElem?_set_ne (Ne.symm hi)] at g1
     exact hcc i' j2 c (ZS g1 g2)
   ·intro i' j2 c hc
    obtain ⟨e',g1,g2⟩ := Zz hc
    by_cases hi : i' = i
    ·subst hi
     rw [List.getElem?_set_self hil] at g1
     cases g1
     have hj2 : j2 < e1.length := by
      have := (List.getElem?_eq_some_iff.1 g2).1
      omega
     have := ih.2 j2 c (us' i' j2) g2 (by rw [List.getElem?_map,List.getElem?_range hj2]; rfl)
     simpa using this
    ·rw [List.getElem?_set_ne (Ne.symm hi)] at g1
     refine (hr i' j2 c (ZS g1 g2)).conv _ (fun b0 hz => ⟨hz,rfl⟩) fun b0 r hb0 => ⟨?_,rfl⟩
     have := hω b0 ([j'] ++ [i',j2] ++ r) (by rw [hb0]; simp) (by
      rintro ⟨k,x,hk,_⟩
      simp only [zO] at hk
      simp at hk
      exact hi hk.1)
     rw [this]; simp
  ·rw [List.getElem?_set_ne (Ne.symm hj)] at hc
   refine (h.2 j' c u hc hu).conv _ (fun b0 hz => ⟨hz,rfl⟩) fun b0 r hb0 => ⟨?_,rfl⟩
   have := hω b0 ([j'] ++ r) (by rw [hb0]; simp) (by
    rintro ⟨k,x,hk,_⟩
    simp only [zO] at hk
    simp at hk
    exact hj hk.1)
   rw [this]; simp
def zDq (o n : Nat) (e : List CV) : List CV := e.take o ++ (List.replicate n CV.dead ++ e.drop (o + n))
theorem zIP {o n : Nat} {e : List CV} (h : o + n ≤ e.length) : (zDq o n e).length = e.length := by
 simp [zDq]; omega
theorem zKE {o n : Nat} {e : List CV} (h : o + n ≤ e.length) (j : Nat) : (zDq o n e)[j]? = if o ≤ j ∧ j < o + n then some .dead else e[j]? := by
 unfold zDq
 by_cases h1 : j < o
 ·rw [List.getElem?_append_left (by simp; omega),List.getElem?_take_of_lt h1,if_neg (by omega)]
 ·rw [List.getElem?_append_right (by simp; omega)]
  have : (e.take o).length = o := by simp; omega
  rw [this]
  by_cases h2 : j < o + n
  ·rw [List.getElem?_append_left (by simp; omega),if_pos (by omega),List.getElem?_replicate,if_pos (by omega)]
  ·rw [List.getElem?_append_right (by simp; omega),if_neg (by omega),List.getElem?_drop]
   congr 1
   simp
   omega
def zFZ (t : Nat) : List (Nat × SV) → List (Nat × SV)
 | [] => []
 | (k,sv) :: l => bif k == t then zFZ t l else (k,sv) :: zFZ t l
theorem zB4 {t0 t : Nat} {sv : SV} : ∀ {l : List (Nat × SV)},(t,sv) ∈ zFZ t0 l → (t,sv) ∈ l ∧ t ≠ t0
 | [],h => by cases h
 | (k,sv') :: l,h => by
  simp only [zFZ] at h
  cases hh : k == t0 with
  | true =>
   simp only [hh,cond_true] at h
   exact ⟨List.mem_cons_of_mem _ (zB4 h).1,(zB4 h).2⟩
  | false =>
   simp only [hh,cond_false] at h
   rcases List.mem_cons.1 h with e | h
   ·cases e
    exact ⟨List.mem_cons_self,by simpa using hh⟩
   ·exact ⟨List.mem_cons_of_mem _ (zB4 h).1,(zB4 h).2⟩
theorem zAu {r : zD} {t : Nat} {sv : SV} : ∀ {l : List (Nat × SV)},(t,sv) ∈ zAZ r l → (t,sv) ∈ l ∧ (∀ q m o n ag,sv ≠ .ref r q m o n ag)
 | [],h => by cases h
 | (t',sv') :: l,h => by
  have key : ∀ {sv' : SV},(∀ q m o n ag,sv' ≠ .ref r q m o n ag) → (t,sv) ∈ (t',sv') :: zAZ r l → (t,sv) ∈ (t',sv') :: l ∧ (∀ q m o n ag,sv ≠ .ref r q m o n ag) := by
   intro sv' hk hm
   rcases List.mem_cons.1 hm with e | hm
   ·cases e
    exact ⟨List.mem_cons_self,hk⟩
   ·exact ⟨List.mem_cons_of_mem _ (zAu hm).1,(zAu hm).2⟩
  cases sv' with
  | ref r' q m o n ag =>
   simp only [zAZ] at h
   cases hh : r'.eqb r with
   | true =>
    simp only [hh,cond_true] at h
    exact ⟨List.mem_cons_of_mem _ (zAu h).1,(zAu h).2⟩
   | false =>
    simp only [hh,cond_false] at h
    exact key (sv' := .ref r' q m o n ag) (fun q2 m2 o2 n2 ag2 e => by cases e; exact zD.eqb_ff hh rfl) h
  | adr r' q m o => exact key (sv' := .adr r' q m o) (fun _ _ _ _ _ e => by cases e) h
  | val ag cs => exact key (sv' := .val ag cs) (fun _ _ _ _ _ e => by cases e) h
  | fad cs => exact key (sv' := .fad cs) (fun _ _ _ _ _ e => by cases e) h
  | tup vs => exact key (sv' := .tup vs) (fun _ _ _ _ _ e => by cases e) h
def St.modR (kd : Bool) (st : St) (r : zD) (q : List (Nat × Nat)) (f : List CV → List CV) : Option St := match r with
 | .slot t => match lk st.s t with
  | some (.val ag cs) => some { st with s := (t,.val ag (ZR f cs q)) :: bif kd then zFZ t (zAZ (.slot t) st.s) else YW (.slot t) st.s }
  | _ => none
 | .box k => match lk st.b k with
  | some cs => match q with
   | (0,0) :: q => some { st with s := bif kd then zAZ (.box k) st.s else dropD (.box k) st.s,b := (k,ZR f cs q) :: zAY (.box k) st.b }
   | _ => none
  | none => none
where
 dropD (r : zD) : List (Nat × SV) → List (Nat × SV)
  | [] => []
  | (t,sv) :: l => match sv with
   | .ref r' q m o n ag => bif r'.eqb r then dropD r l else (t,.ref r' q m o n ag) :: dropD r l
   | .adr r' q m o => match q with
    | [(0,0)] => (t,.adr r' q m o) :: dropD r l
    | _ => bif r'.eqb r then dropD r l else (t,.adr r' q m o) :: dropD r l
   | sv => (t,sv) :: dropD r l
def SV.offD (r : zD) : SV → Prop
 | .ref r' _ _ _ _ _ => r' ≠ r
 | .adr r' q _ _ => r' ≠ r ∨ q = [(0,0)]
 | _ => True
theorem J1 {r : zD} {t : Nat} {sv : SV} : ∀ {l : List (Nat × SV)},(t,sv) ∈ St.modR.dropD r l → (t,sv) ∈ l ∧ sv.offD r
 | [],h => by cases h
 | (t',sv') :: l,h => by
  have key : ∀ {sv' : SV},sv'.offD r → (t,sv) ∈ (t',sv') :: St.modR.dropD r l →
    (t,sv) ∈ (t',sv') :: l ∧ sv.offD r := by
   intro sv' hk hm
   rcases List.mem_cons.1 hm with e | hm
   ·cases e
    exact ⟨List.mem_cons_self,hk⟩
   ·exact ⟨List.mem_cons_of_mem _ (J1 hm).1,(J1 hm).2⟩
  cases sv' with
  | ref r' q m o n ag =>
   simp only [St.modR.dropD] at h
   cases hh : r'.eqb r with
   | true =>
    simp only [hh,cond_true] at h
    exact ⟨List.mem_cons_of_mem _ (J1 h).1,(J1 h).2⟩
   | false =>
    simp only [hh,cond_false] at h
    exact key (sv' := .ref r' q m o n ag) (zD.eqb_ff hh) h
  | adr r' q m o =>
   simp only [St.modR.dropD] at h
   split at h
   ·exact key (sv' := .adr r' [(0,0)] m o) (.inr rfl) h
   ·cases hh : r'.eqb r with
    | true =>
     simp only [hh,cond_true] at h
     exact ⟨List.mem_cons_of_mem _ (J1 h).1,(J1 h).2⟩
    | false =>
     simp only [hh,cond_false] at h
     exact key (sv' := .adr r' q m o) (.inl (zD.eqb_ff hh)) h
  | val ag cs => exact key (sv' := .val ag cs) trivial h
  | fad cs => exact key (sv' := .fad cs) trivial h
  | tup vs => exact key (sv' := .tup vs) trivial h
end Go.TL
