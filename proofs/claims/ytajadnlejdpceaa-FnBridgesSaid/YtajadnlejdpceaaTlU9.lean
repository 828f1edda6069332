import Derived.Test.YtajadnlejdpceaaTlU8
set_option linter.unusedVariables false
namespace Go.TL
open Go
def Jq (k o n : Nat) : List (Nat × SV) → List (Nat × SV)
 | [] => []
 | (t,sv) :: l => match sv with
  | .ref r [(0,0)] m o' n' ag => bif r.eqb (.box k) && (Nat.ble (o' + n') o || Nat.ble (o + n) o') then (t,.ref r [(0,0)] m o' n' ag) :: Jq k o n l else Jq k o n l
  | _ => Jq k o n l
theorem zB1 {k o n t : Nat} {sv : SV} : ∀ {l : List (Nat × SV)},(t,sv) ∈ Jq k o n l → (t,sv) ∈ l ∧ ∃ m o' n' ag,sv = .ref (.box k) [(0,0)] m o' n' ag ∧ (o' + n' ≤ o ∨ o + n ≤ o')
 | [],h => by cases h
 | (t',sv') :: l,h => by
  have up : (t,sv) ∈ Jq k o n l → (t,sv) ∈ (t',sv') :: l ∧ ∃ m o' n' ag,sv = .ref (.box k) [(0,0)] m o' n' ag ∧ (o' + n' ≤ o ∨ o + n ≤ o') := fun h =>
   ⟨List.mem_cons_of_mem _ (zB1 h).1,(zB1 h).2⟩
  simp only [Jq] at h
  split at h
  ·rename_i r m o' n' ag
   cases hc : (r.eqb (.box k) && (Nat.ble (o' + n') o || Nat.ble (o + n) o')) with
   | false => simp only [hc,cond_false] at h; exact up h
   | true =>
    simp only [hc,cond_true] at h
    rcases List.mem_cons.1 h with e | h
    ·cases e
     simp only [Bool.and_eq_true,Bool.or_eq_true,zE.eqb_iff,Nat.ble_eq] at hc
     obtain ⟨h1,h2⟩ := hc
     subst h1
     exact ⟨List.mem_cons_self,m,o',n',ag,rfl,h2⟩
    ·exact up h
  ·exact up h
theorem zDM {T : TypeId} {fz : Nat × Nat} {b : Nat} : ∀ (vs : List Value) (k : Nat) (w : World) (cur : Array Value),w.heap[b]? = some (.cells cur T fz) →
  ∃ cur',(w.setCells b k vs).heap[b]? = some (.cells cur' T fz) ∧ ∀ i,(i < k ∨ k + vs.length ≤ i) → cur'[i]? = cur[i]?
 | [],k,w,cur,h => ⟨cur,h,fun _ _ => rfl⟩
 | v :: vs,k,w,cur,h => by
  obtain ⟨cur',h1,h2⟩ := zDM vs (k + 1) (w.setCell ⟨b,k,none⟩ v) _ (zAx h k v)
  refine ⟨cur',by rw [World.setCells]; exact h1,fun i hi => ?_⟩
  rw [h2 i (by simp only [List.length_cons] at hi; omega),Array.getElem?_setIfInBounds,if_neg (by simp only [List.length_cons] at hi; omega)]
theorem zIM {P : Program} {cx : Cx} {T : Nat → Option TI} (hT : TOk P T) {st st' : St} {o : Oper} {t : TypeId} {ad x : Operand} {tk : Tk} {k so : Nat} {e : List CV} {i : TI}
  (ho : o.op = .store t ad x) (hdst : o.dst = none) (ht : T t = some i) (hx : qV T st t x = some tk) (hl : tk.cs.length = i.size) (ha : adS tk.st ad = some ⟨.box k,[(0,0)],so,e⟩) (hle : so + i.size ≤ e.length)
  (hm : tk.st.modR (CV.flatRow tk.cs) (.box k) [(0,0)] (setAt so tk.cs) = some st') : qw P cx o st { st' with s := st'.s ++ Jq k so i.size tk.st.s } := by
 intro a w Z ω h
 obtain ⟨ω1,h1,hs,hv,hn,_⟩ := Zp h hx 0
 obtain ⟨b,cur,T',us0,row,e1,e2,e3,e4,e5,e6,e7,e8⟩ := Jp h1 ha
 obtain ⟨us,hus,husl⟩ := h1.row e5
 have hvl : (a.eval x).cells.toList.length = i.size := by rw [hv.1,hl]
 obtain ⟨ω2,i1,i2,i3,i4,i5,i6⟩ := zAb (cx := cx) e4 (a.eval x).cells.toList tk.cs 0 w ω1 us row e so b h1.inv hus e6 (by rw [hl]; exact hle) e2 (ZW.zero.2 hv)
 simp only [zc,Nat.zero_mul,Nat.zero_add] at e1 e8 i1 i2 i3 i4
 have hcells : ∀ j,j < (a.eval x).cells.toList.length → (w.cell? ⟨b,so + 0 + j,none⟩).isSome = true := by
  intro j hj
  rw [hvl] at hj
  obtain ⟨u,g1,_⟩ := e8 (so + j) e[so + j] (List.getElem?_eq_getElem (by omega))
  rw [YE e3,show so + 0 + j = so + j by omega,g1]
  rfl
 have hfroz : ∀ k,w.frozen? ⟨b,k,none⟩ = false := by
  intro k
  simp only [World.frozen?,e3]
  simp
 have hrun := run_storeCells_cells (P := P) b so (a.eval x).cells.toList 0 w hcells (fun j _ => hfroz _) hv.ones
 refine ⟨undef,w.setCells b so (a.eval x).cells.toList,Z,ω2,.inr ⟨?_,rfl⟩,?_⟩
 ·have hsz := (hT t i ht).sizeOf w
  have hsz2 : (a.eval x).cells.size = i.size := by rw [← Array.length_toList]; exact hvl
  simp only [Nat.add_zero] at hrun
  simp only [execOp,ho,Instr.storeAt,e1,Instr.sureAddr,storeVar,Sem.run_bind,Sem.run_pure,Result.andThen_ok,hsz,hsz2]
  simp [hrun]
 ·rw [hdst]
  show Rel cx _ a _ Z ω2
  have hR : Rel cx st' a (w.setCells b so (a.eval x).cells.toList) Z ω2 := by
   refine h1.modR hm e5 (ZS e6 (qm _ _ _)) ?_ ⟨us,i2,husl⟩ i1 (fun b hb => ⟨hb,i3 b hb⟩) ?_ i6 ?_
   ·intro cells hc q' hq'
    rw [hc,hq'] at e6
    simp only [qj,List.getElem?_cons_zero] at e6
    exact ZS e6 (qm _ _ _)
   ·intro r' hr' b0 x0 hb0
    refine ⟨i5 b0 _ hb0 Ze (ZF hr'),i4 b0 _ hb0 (fun e => hr' (zE.path_inj e).1)⟩
   ·intro k0 hk0 b0 hb0
    refine i5 b0 _ hb0 (zb fun j2 r3 h => by simp at h) (zb fun j2 r3 h => ?_)
    rw [hk0] at h
    have hl2 := congrArg List.length h
    simp [zR,zE.path] at hl2
  refine { hR with hs := fun t' sv hm' => ?_ }
  rcases List.mem_append.1 hm' with hm' | hm'
  ·exact hR.hs t' sv hm'
  ·obtain ⟨g0,m,o',n',ag,rfl,hoff⟩ := zB1 hm'
   obtain ⟨k1,k2,k3⟩ := h1.hs t' _ g0
   refine ⟨k1,k2,fun j u hu => ?_⟩
   obtain ⟨b0,cur0,T0,f1,f2,f3⟩ := k3 j u hu
   have hbb : b0 = b := h1.inv.inj _ _ _ f1 e2
   subst hbb
   rw [e3] at f2
   cases f2
   obtain ⟨cur',c1,c2⟩ := zDM (a.eval x).cells.toList so w cur e3
   have hj : j < n' := by
    rw [← k2]
    exact (Array.getElem?_eq_some_iff.1 hu).1
   refine ⟨b0,cur',T',i5 b0 _ f1 Ze (zb fun j2 r3 hh => ?_),c1,?_⟩
   ·have h3 := congrArg List.length hh
    simp [spine,zR] at h3
   ·rw [c2 _ (by rw [hvl]; simp only [zc,Nat.zero_mul,Nat.zero_add]; omega)]
    exact f3
def zFe (T : Nat → Option TI) (st : St) (t : TypeId) (x : Operand) (k so n : Nat) (tcs : List CV) : Option St := match (qT T st t x).modR (CV.flatRow tcs) (.box k) [(0,0)] (setAt so tcs) with
 | some s => some { s with s := s.s ++ Jq k so n (qT T st t x).s }
 | none => none
def zGs (T : Nat → Option TI) (st : St) (t : TypeId) (x : Operand) (k so n : Nat) (tcs : List CV) : St := match zFe T st t x k so n tcs with
 | some s => s
 | none => ⟨0,0,[],[]⟩
theorem LAt.storeO {P : Program} {cx : Cx} {T : Nat → Option TI} (hT : TOk P T) {ops : Array Oper} {n : Nat} {st : St} {K : St → Prop} {t ty : TypeId} {ad x : Operand} {g : Option (Nat × Bool)} (i : TI) (ag : Bool) (tcs : List CV) (k so : Nat) (e : List CV)
  (hop : opAt ops n = some (.store t ad x,none,ty,g)) (hg : gdT ops st g = true) (ht : T t = some i) (hx : (qV T st t x).map (fun tk => (tk.ag,tk.cs)) = some (ag,tcs)) (hl : (tcs.length == i.size) = true) (ha : adS (qT T st t x) ad = some ⟨.box k,[(0,0)],so,e⟩) (hle : Nat.ble (so + i.size) e.length = true)
  (hst : (zFe T st t x k so i.size tcs).isSome = true) (hk : LAt P cx ops (n + 1) (zGs T st t x k so i.size tcs) K) : LAt P cx ops n st K := by
 obtain ⟨st',hs⟩ := Option.isSome_iff_exists.1 hst
 unfold zGs at hk
 rw [hs] at hk
 unfold zFe at hs
 split at hs
 ·rename_i s2 hs2
  cases hs
  exact LAt.stepG hop hg rfl (fun o' ho hdst _ => zIM (tk := ⟨ag,tcs,qT T st t x⟩) hT ho hdst ht (zDe hx) (eq_of_beq hl) ha (Nat.le_of_ble_eq_true hle) hs2) hk
 ·cases hs
end Go.TL
