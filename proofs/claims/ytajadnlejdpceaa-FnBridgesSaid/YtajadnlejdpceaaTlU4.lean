import Derived.Test.YtajadnlejdpceaaTlU3
set_option linter.unusedVariables false
namespace Go.TL
def Q9 (r : zE) (n : Nat) : List (Nat × SV) → List (Nat × SV)
 | [] => []
 | (t,sv) :: l => match sv with
  | .ref r' q m o k ag => bif r'.eqb r && Nat.blt q.length n then (t,.ref r' q m o k ag) :: Q9 r n l else Q9 r n l
  | _ => Q9 r n l
theorem zAu {r : zE} {n t : Nat} {sv : SV} : ∀ {l : List (Nat × SV)},(t,sv) ∈ Q9 r n l → (t,sv) ∈ l ∧ ∃ q m o k ag,sv = .ref r q m o k ag ∧ q.length < n
 | [],h => by cases h
 | (t',sv') :: l,h => by
  have up : (t,sv) ∈ Q9 r n l → (t,sv) ∈ (t',sv') :: l ∧ ∃ q m o k ag,sv = .ref r q m o k ag ∧ q.length < n := fun h =>
   ⟨List.mem_cons_of_mem _ (zAu h).1,(zAu h).2⟩
  simp only [Q9] at h
  split at h
  ·rename_i r' q m o k ag
   cases hc : (r'.eqb r && Nat.blt q.length n) with
   | false => simp only [hc,cond_false] at h; exact up h
   | true =>
    simp only [hc,cond_true] at h
    rcases List.mem_cons.1 h with e | h
    ·cases e
     simp only [Bool.and_eq_true,zE.eqb_iff] at hc
     obtain ⟨h1,h2⟩ := hc
     subst h1
     exact ⟨List.mem_cons_self,q,m,o,k,ag,rfl,Nat.le_of_ble_eq_true h2⟩
    ·exact up h
  ·exact up h
theorem zDH : ∀ (q : List (Nat × Nat)),(zR q).length = 2 * q.length
 | [] => rfl
 | (j,i) :: q => by simp only [zR,List.length_cons,zDH q]; omega
theorem zF0 {q : List (Nat × Nat)} (h : q ≠ []) : (spine q).length + 1 = 2 * q.length := by
 have := congrArg List.length (zBH q h)
 rw [zDH,List.length_append,List.length_singleton] at this
 omega
theorem zIL {P : Program} {cx : Cx} {T : Nat → Option TI} (hT : TOk P T) {st st' : St} {o : Oper} {t : TypeId} {ad x : Operand} {tk : Tk} {s : zBx} {i : TI}
  (ho : o.op = .store t ad x) (hdst : o.dst = none) (ht : T t = some i) (hx : qV T st t x = some tk) (hl : tk.cs.length = i.size) (ha : adS tk.st ad = some s) (hle : s.o + i.size ≤ s.e.length)
  (hm : tk.st.modR (CV.flatRow tk.cs) s.r s.q (setAt s.o tk.cs) = some st') : qw P cx o st { st' with s := st'.s ++ Q9 s.r s.q.length tk.st.s } := by
 intro a w Z ω h
 obtain ⟨ω1,h1,hs,hv,hn,_⟩ := Zp h hx 0
 obtain ⟨b,cur,T',us0,row,e1,e2,e3,e4,e5,e6,e7,e8⟩ := Jp h1 ha
 obtain ⟨us,hus,husl⟩ := h1.row e5
 have hvl : (a.eval x).cells.toList.length = i.size := by rw [hv.1,hl]
 obtain ⟨ω2,i1,i2,i3,i4,i5,i6⟩ := zAb (cx := cx) e4 (a.eval x).cells.toList tk.cs 0 w ω1 us row s.e s.o b h1.inv hus e6 (by rw [hl]; exact hle) e2 (ZW.zero.2 hv)
 have hcells : ∀ j,j < (a.eval x).cells.toList.length → (w.cell? ⟨b,zc s.q * s.e.length + s.o + 0 + j,none⟩).isSome = true := by
  intro j hj
  rw [hvl] at hj
  obtain ⟨u,g1,_⟩ := e8 (s.o + j) s.e[s.o + j] (List.getElem?_eq_getElem (by omega))
  rw [YE e3,show zc s.q * s.e.length + s.o + 0 + j = zc s.q * s.e.length + (s.o + j) by omega,g1]
  rfl
 have hfroz : ∀ k,w.frozen? ⟨b,k,none⟩ = false := by
  intro k
  simp only [World.frozen?,e3]
  simp
 have hrun := run_storeCells_cells (P := P) b (zc s.q * s.e.length + s.o) (a.eval x).cells.toList 0 w hcells (fun j _ => hfroz _) hv.ones
 refine ⟨undef,w.setCells b (zc s.q * s.e.length + s.o) (a.eval x).cells.toList,Z,ω2,.inr ⟨?_,rfl⟩,?_⟩
 ·have hsz := (hT t i ht).sizeOf w
  have hsz2 : (a.eval x).cells.size = i.size := by rw [← Array.length_toList]; exact hvl
  simp only [Nat.add_zero] at hrun
  simp only [execOp,ho,Instr.storeAt,e1,Instr.sureAddr,storeVar,Sem.run_bind,Sem.run_pure,Result.andThen_ok,hsz,hsz2]
  simp [hrun]
 ·rw [hdst]
  show Rel cx _ a _ Z ω2
  have hR : Rel cx st' a (w.setCells b (zc s.q * s.e.length + s.o) (a.eval x).cells.toList) Z ω2 := by
   refine h1.modR hm e5 (ZS e6 (qm _ _ _)) ?_ ⟨us,i2,husl⟩ i1 (fun b hb => ⟨hb,i3 b hb⟩) ?_ i6 ?_
   ·intro cells hc q' hq'
    rw [hc,hq'] at e6
    simp only [qj,List.getElem?_cons_zero] at e6
    exact ZS e6 (qm _ _ _)
   ·intro r' hr' b0 x0 hb0
    refine ⟨i5 b0 _ hb0 Ze (ZF hr'),i4 b0 _ hb0 (fun e => hr' (zE.path_inj e).1)⟩
   ·intro k0 hk0 b0 hb0
    refine i5 b0 _ hb0 (zb fun j2 r3 h => by simp at h) (zb fun j2 r3 h => ?_)
    rw [hk0] at h
    have hl2 := congrArg List.length h
    cases hq : s.q with
    | nil => exact absurd hq e4
    | cons y q => rw [hq] at hl2; obtain ⟨y1,y2⟩ := y; simp [zR,zE.path] at hl2
  refine { hR with hs := fun t' sv hm' => ?_ }
  rcases List.mem_append.1 hm' with hm' | hm'
  ·exact hR.hs t' sv hm'
  ·obtain ⟨g0,q',m,o',k,ag,rfl,hlt⟩ := zAu hm'
   obtain ⟨k1,k2,k3⟩ := h1.hs t' _ g0
   refine ⟨k1,k2,fun j u hu => ?_⟩
   have hc := k3 j u hu
   cases q' with
   | nil =>
    cases hr : s.r with
    | slot t0 => rw [hr] at hc; exact hc
    | box k0 => rw [hr] at hc; exact hc.elim
   | cons y q' =>
    obtain ⟨b0,cur0,T0,f1,f2,f3⟩ := hc
    have hne : y :: q' ≠ [] := by simp
    have hsl := zF0 hne
    have hsl2 := zF0 e4
    refine ⟨b0,cur0,T0,i5 b0 _ f1 Ze (zb fun j2 r3 hh => ?_),(i4 b0 _ f1 fun hh => ?_).trans f2,f3⟩
    ·have h3 := congrArg List.length hh
     simp only [List.length_append,List.length_cons,zDH] at h3 hsl
     simp only [List.length_cons] at hlt
     omega
    ·have h3 := congrArg List.length hh
     simp only [List.length_append] at h3
     omega
def St.modRK (kd : Bool) (st : St) (r : zE) (n : Nat) (cs' : List CV) : Option St := match st.modRX kd r cs' with
 | some s => some { s with s := s.s ++ Q9 r n st.s }
 | none => none
def zGf (kd : Bool) (st : St) (r : zE) (n : Nat) (cs' : List CV) : St := match st.modRK kd r n cs' with
 | some s => s
 | none => ⟨0,0,[],[]⟩
theorem LAt.storeK {P : Program} {cx : Cx} {T : Nat → Option TI} (hT : TOk P T) {ops : Array Oper} {n : Nat} {st : St} {K : St → Prop} {t ty : TypeId} {ad x : Operand} {g : Option (Nat × Bool)} (i : TI) (ag : Bool) (tcs : List CV) (r : zE) (q q' : List (Nat × Nat)) (m o : Nat) (row e cs cs' : List CV)
  (hop : opAt ops n = some (.store t ad x,none,ty,g)) (hg : gdT ops st g = true) (ht : T t = some i) (hx : (qV T st t x).map (fun tk => (tk.ag,tk.cs)) = some (ag,tcs)) (hl : (tcs.length == i.size) = true) (ha : zBe (qT T st t x) ad = some (r,q,m,o,row)) (hge : qj row q = some e) (hm : e.length = m) (hq : q ≠ [])
  (hle : Nat.ble (o + i.size) m = true) (hrr : Ju (qT T st t x) r = some cs) (hrq : zGF r q = some q') (hmod : ZO (setAt o tcs) cs q' = cs') (hst : ((qT T st t x).modRK (CV.flatRow tcs) r q.length cs').isSome = true) (hk : LAt P cx ops (n + 1) (zGf (CV.flatRow tcs) (qT T st t x) r q.length cs') K) : LAt P cx ops n st K := by
 obtain ⟨st',hs⟩ := Option.isSome_iff_exists.1 hst
 unfold zGf at hk
 rw [hs] at hk
 subst hm
 unfold St.modRK at hs
 split at hs
 ·rename_i s2 hs2
  cases hs
  exact LAt.stepG hop hg rfl (fun o' ho hdst _ => zIL hT ho hdst ht (zDe hx) (eq_of_beq hl) (zH0 ha hge rfl hq) (Nat.le_of_ble_eq_true hle) (by rw [zI1 hrr hrq hmod]; exact hs2)) hk
 ·cases hs
end Go.TL
