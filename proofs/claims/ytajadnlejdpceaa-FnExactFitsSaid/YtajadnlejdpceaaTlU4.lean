import Derived.Test.YtajadnlejdpceaaTlU3
set_option linter.unusedVariables false
namespace Go.TL
def ZY (r : zB) (n : Nat) : List (Nat × SV) → List (Nat × SV)
 | [] => []
 | (t,sv) :: l => match sv with
  | .ref r' q m o k ag => bif r'.eqb r && Nat.blt q.length n then (t,.ref r' q m o k ag) :: ZY r n l else ZY r n l
  | _ => ZY r n l
theorem YK {r : zB} {n t : Nat} {sv : SV} : ∀ {l : List (Nat × SV)},(t,sv) ∈ ZY r n l → (t,sv) ∈ l ∧ ∃ q m o k ag,sv = .ref r q m o k ag ∧ q.length < n
 | [],h => by cases h
 | (t',sv') :: l,h => by
  have up : (t,sv) ∈ ZY r n l → (t,sv) ∈ (t',sv') :: l ∧ ∃ q m o k ag,sv = .ref r q m o k ag ∧ q.length < n := fun h =>
   ⟨List.mem_cons_of_mem _ (YK h).1,(YK h).2⟩
  simp only [ZY] at h
  split at h
  ·rename_i r' q m o k ag
   cases hc : (r'.eqb r && Nat.blt q.length n) with
   | false => simp only [hc,cond_false] at h; exact up h
   | true =>
    simp only [hc,cond_true] at h
    rcases List.mem_cons.1 h with e | h
    ·cases e
     simp only [Bool.and_eq_true,zB.eqb_iff] at hc
     obtain ⟨h1,h2⟩ := hc
     subst h1
     exact ⟨List.mem_cons_self,q,m,o,k,ag,rfl,Nat.le_of_ble_eq_true h2⟩
    ·exact up h
  ·exact up h
theorem Jo : ∀ (q : List (Nat × Nat)),(zD q).length = 2 * q.length
 | [] => rfl
 | (j,i) :: q => by simp only [zD,List.length_cons,Jo q]; omega
theorem zBM {q : List (Nat × Nat)} (h : q ≠ []) : (spine q).length + 1 = 2 * q.length := by
 have := congrArg List.length (YW q h)
 rw [Jo,List.length_append,List.length_singleton] at this
 omega
theorem zDQ {P : Program} {cx : Cx} {T : Nat → Option TI} (hT : TOk P T) {st st' : St} {o : Oper} {t : TypeId} {ad x : Operand} {tk : Tk} {s : Yq} {i : TI}
  (ho : o.op = .store t ad x) (hdst : o.dst = none) (ht : T t = some i) (hx : zd T st t x = some tk) (hl : tk.cs.length = i.size) (ha : adS tk.st ad = some s) (hle : s.o + i.size ≤ s.e.length)
  (hm : tk.st.modR (CV.flatRow tk.cs) s.r s.q (setAt s.o tk.cs) = some st') : zt P cx o st { st' with s := st'.s ++ ZY s.r s.q.length tk.st.s } := by
 intro a w Z ω h
 obtain ⟨ω1,h1,hs,hv,hn,_⟩ := qh h hx 0
 obtain ⟨b,cur,T',us0,row,e1,e2,e3,e4,e5,e6,e7,e8⟩ := YF h1 ha
 obtain ⟨us,hus,husl⟩ := h1.row e5
 have hvl : (a.eval x).cells.toList.length = i.size := by rw [hv.1,hl]
 obtain ⟨ω2,i1,i2,i3,i4,i5,i6⟩ := Yz (cx := cx) e4 (a.eval x).cells.toList tk.cs 0 w ω1 us row s.e s.o b h1.inv hus e6 (by rw [hl]; exact hle) e2 (qQ.zero.2 hv)
 have hcells : ∀ j,j < (a.eval x).cells.toList.length → (w.cell? ⟨b,zI s.q * s.e.length + s.o + 0 + j,none⟩).isSome = true := by
  intro j hj
  rw [hvl] at hj
  obtain ⟨u,g1,_⟩ := e8 (s.o + j) s.e[s.o + j] (List.getElem?_eq_getElem (by omega))
  rw [Z8 e3,show zI s.q * s.e.length + s.o + 0 + j = zI s.q * s.e.length + (s.o + j) by omega,g1]
  rfl
 have hfroz : ∀ k,w.frozen? ⟨b,k,none⟩ = false := by
  intro k
  simp only [World.frozen?,e3]
  simp
 have hrun := run_storeCells_cells (P := P) b (zI s.q * s.e.length + s.o) (a.eval x).cells.toList 0 w hcells (fun j _ => hfroz _) hv.ones
 refine ⟨undef,w.setCells b (zI s.q * s.e.length + s.o) (a.eval x).cells.toList,Z,ω2,.inr ⟨?_,rfl⟩,?_⟩
 ·have hsz := (hT t i ht).sizeOf w
  have hsz2 : (a.eval x).cells.size = i.size := by rw [← Array.length_toList]; exact hvl
  simp only [Nat.add_zero] at hrun
  simp only [execOp,ho,Instr.storeAt,e1,Instr.sureAddr,storeVar,Sem.run_bind,Sem.run_pure,Result.andThen_ok,hsz,hsz2]
  simp [hrun]
 ·rw [hdst]
  show Rel cx _ a _ Z ω2
  have hR : Rel cx st' a (w.setCells b (zI s.q * s.e.length + s.o) (a.eval x).cells.toList) Z ω2 := by
   refine h1.modR hm e5 (qg e6 (zx _ _ _)) ?_ ⟨us,i2,husl⟩ i1 (fun b hb => ⟨hb,i3 b hb⟩) ?_ i6 ?_
   ·intro cells hc q' hq'
    rw [hc,hq'] at e6
    simp only [zr,List.getElem?_cons_zero] at e6
    exact qg e6 (zx _ _ _)
   ·intro r' hr' b0 x0 hb0
    refine ⟨i5 b0 _ hb0 qb (qB hr'),i4 b0 _ hb0 (fun e => hr' (zB.path_inj e).1)⟩
   ·intro k0 hk0 b0 hb0
    refine i5 b0 _ hb0 (zH fun j2 r3 h => by simp at h) (zH fun j2 r3 h => ?_)
    rw [hk0] at h
    have hl2 := congrArg List.length h
    cases hq : s.q with
    | nil => exact absurd hq e4
    | cons y q => rw [hq] at hl2; obtain ⟨y1,y2⟩ := y; simp [zD,zB.path] at hl2
  refine { hR with hs := fun t' sv hm' => ?_ }
  rcases List.mem_append.1 hm' with hm' | hm'
  ·exact hR.hs t' sv hm'
  ·obtain ⟨g0,q',m,o',k,ag,rfl,hlt⟩ := YK hm'
   obtain ⟨k1,k2,k3⟩ := h1.hs t' _ g0
   refine ⟨k1,k2,fun j u hu => ?_⟩
   have hc := k3 j u hu
   cases q' with
   | nil =>
    cases hr : s.r with
    | slot t0 => rw [hr] at hc; exact hc
    | box k0 => rw [hr] at hc; exact hc.elim
   | cons y q' =>
    obtain ⟨b0,cur0,T0,f1,f2,f3⟩ := hc
    have hne : y :: q' ≠ [] := by simp
    have hsl := zBM hne
    have hsl2 := zBM e4
    refine ⟨b0,cur0,T0,i5 b0 _ f1 qb (zH fun j2 r3 hh => ?_),(i4 b0 _ f1 fun hh => ?_).trans f2,f3⟩
    ·have h3 := congrArg List.length hh
     simp only [List.length_append,List.length_cons,Jo] at h3 hsl
     simp only [List.length_cons] at hlt
     omega
    ·have h3 := congrArg List.length hh
     simp only [List.length_append] at h3
     omega
def St.modRK (kd : Bool) (st : St) (r : zB) (n : Nat) (cs' : List CV) : Option St := match st.modRX kd r cs' with
 | some s => some { s with s := s.s ++ ZY r n st.s }
 | none => none
def zBq (kd : Bool) (st : St) (r : zB) (n : Nat) (cs' : List CV) : St := match st.modRK kd r n cs' with
 | some s => s
 | none => ⟨0,0,[],[]⟩
theorem LAt.storeK {P : Program} {cx : Cx} {T : Nat → Option TI} (hT : TOk P T) {ops : Array Oper} {n : Nat} {st : St} {K : St → Prop} {t ty : TypeId} {ad x : Operand} {g : Option (Nat × Bool)} (i : TI) (ag : Bool) (tcs : List CV) (r : zB) (q q' : List (Nat × Nat)) (m o : Nat) (row e cs cs' : List CV)
  (hop : opAt ops n = some (.store t ad x,none,ty,g)) (hg : gdT ops st g = true) (ht : T t = some i) (hx : (zd T st t x).map (fun tk => (tk.ag,tk.cs)) = some (ag,tcs)) (hl : (tcs.length == i.size) = true) (ha : zAa (zn T st t x) ad = some (r,q,m,o,row)) (hge : zr row q = some e) (hm : e.length = m) (hq : q ≠ [])
  (hle : Nat.ble (o + i.size) m = true) (hrr : YA (zn T st t x) r = some cs) (hrq : zBT r q = some q') (hmod : qC (setAt o tcs) cs q' = cs') (hst : ((zn T st t x).modRK (CV.flatRow tcs) r q.length cs').isSome = true) (hk : LAt P cx ops (n + 1) (zBq (CV.flatRow tcs) (zn T st t x) r q.length cs') K) : LAt P cx ops n st K := by
 obtain ⟨st',hs⟩ := Option.isSome_iff_exists.1 hst
 unfold zBq at hk
 rw [hs] at hk
 subst hm
 unfold St.modRK at hs
 split at hs
 ·rename_i s2 hs2
  cases hs
  exact LAt.stepG hop hg rfl (fun o' ho hdst _ => zDQ hT ho hdst ht (zAw hx) (eq_of_beq hl) (zD9 ha hge rfl hq) (Nat.le_of_ble_eq_true hle) (by rw [zDx hrr hrq hmod]; exact hs2)) hk
 ·cases hs
end Go.TL
