import Derived.Test.YtajadnlejdpceaaGreatTlU8
set_option linter.unusedVariables false
namespace Go.TL
open Go
def zA8 (k o n : Nat) : List (Nat × SV) → List (Nat × SV)
 | [] => []
 | (t,sv) :: l => match sv with
  | .ref r [(0,0)] m o' n' ag => bif r.eqb (.box k) && (Nat.ble (o' + n') o || Nat.ble (o + n) o') then (t,.ref r [(0,0)] m o' n' ag) :: zA8 k o n l else zA8 k o n l
  | _ => zA8 k o n l
theorem zD5 {k o n t : Nat} {sv : SV} : ∀ {l : List (Nat × SV)},(t,sv) ∈ zA8 k o n l → (t,sv) ∈ l ∧ ∃ m o' n' ag,sv = .ref (.box k) [(0,0)] m o' n' ag ∧ (o' + n' ≤ o ∨ o + n ≤ o')
 | [],h => by cases h
 | (t',sv') :: l,h => by
  have up : (t,sv) ∈ zA8 k o n l → (t,sv) ∈ (t',sv') :: l ∧ ∃ m o' n' ag,sv = .ref (.box k) [(0,0)] m o' n' ag ∧ (o' + n' ≤ o ∨ o + n ≤ o') := fun h =>
   ⟨List.mem_cons_of_mem _ (zD5 h).1,(zD5 h).2⟩
  simp only [zA8] at h
  split at h
  ·rename_i r m o' n' ag
   cases hc : (r.eqb (.box k) && (Nat.ble (o' + n') o || Nat.ble (o + n) o')) with
   | false => simp only [hc,cond_false] at h; exact up h
   | true =>
    simp only [hc,cond_true] at h
    rcases List.mem_cons.1 h with e | h
    ·cases e
     simp only [Bool.and_eq_true,Bool.or_eq_true,zH.eqb_iff,Nat.ble_eq] at hc
     obtain ⟨h1,h2⟩ := hc
     subst h1
     exact ⟨List.mem_cons_self,m,o',n',ag,rfl,h2⟩
    ·exact up h
  ·exact up h
theorem zH2 {T : TypeId} {fz : Nat × Nat} {b : Nat} : ∀ (vs : List Value) (k : Nat) (w : World) (cur : Array Value),w.heap[b]? = some (.cells cur T fz) →
  ∃ cur',(w.setCells b k vs).heap[b]? = some (.cells cur' T fz) ∧ ∀ i,(i < k ∨ k + vs.length ≤ i) → cur'[i]? = cur[i]?
 | [],k,w,cur,h => ⟨cur,h,fun _ _ => rfl⟩
 | v :: vs,k,w,cur,h => by
  obtain ⟨cur',h1,h2⟩ := zH2 vs (k + 1) (w.setCell ⟨b,k,none⟩ v) _ (zEw h k v)
  refine ⟨cur',by rw [World.setCells]; exact h1,fun i hi => ?_⟩
  rw [h2 i (by simp only [List.length_cons] at hi; omega),Array.getElem?_setIfInBounds,if_neg (by simp only [List.length_cons] at hi; omega)]
theorem zOB {P : Program} {cx : Cx} {T : Nat → Option TI} (hT : TOk P T) {st st' : St} {o : Oper} {t : TypeId} {ad x : Operand} {tk : Tk} {k so : Nat} {e : List CV} {i : TI}
  (ho : o.op = .store t ad x) (hdst : o.dst = none) (ht : T t = some i) (hx : qw T st t x = some tk) (hl : tk.cs.length = i.size) (ha : adS tk.st ad = some ⟨.box k,[(0,0)],so,e⟩) (hle : so + i.size ≤ e.length)
  (hm : tk.st.modR (CV.flatRow tk.cs) (.box k) [(0,0)] (setAt so tk.cs) = some st') : Za P cx o st { st' with s := st'.s ++ zA8 k so i.size tk.st.s } := by
 intro a w Z ω h
 obtain ⟨ω1,h1,hs,hv,hn,_⟩ := YJ h hx 0
 obtain ⟨b,cur,T',us0,row,e1,e2,e3,e4,e5,e6,e7,e8⟩ := zC4 h1 ha
 obtain ⟨us,hus,husl⟩ := h1.row e5
 have hvl : (a.eval x).cells.toList.length = i.size := by rw [hv.1,hl]
 obtain ⟨ω2,i1,i2,i3,i4,i5,i6⟩ := zEB (cx := cx) e4 (a.eval x).cells.toList tk.cs 0 w ω1 us row e so b h1.inv hus e6 (by rw [hl]; exact hle) e2 (QR.zero.2 hv)
 simp only [zk,Nat.zero_mul,Nat.zero_add] at e1 e8 i1 i2 i3 i4
 have hcells : ∀ j,j < (a.eval x).cells.toList.length → (w.cell? ⟨b,so + 0 + j,none⟩).isSome = true := by
  intro j hj
  rw [hvl] at hj
  obtain ⟨u,g1,_⟩ := e8 (so + j) e[so + j] (List.getElem?_eq_getElem (by omega))
  rw [zAf e3,show so + 0 + j = so + j by omega,g1]
  rfl
 have hfroz : ∀ k,w.frozen? ⟨b,k,none⟩ = false := by
  intro k
  simp only [World.frozen?,e3]
  simp
 have hrun := run_storeCells_cells (P := P) b so (a.eval x).cells.toList 0 w hcells (fun j _ => hfroz _) hv.ones
 refine ⟨undef,w.setCells b so (a.eval x).cells.toList,Z,ω2,.inr ⟨?_,rfl⟩,?_⟩
 ·have hsz := (hT t i ht).sizeOf w
  have hsz2 : (a.eval x).cells.size = i.size := by rw [← Array.length_toList]; exact hvl
  simp only [Nat.add_zero] at hrun
  simp only [execOp,ho,Instr.storeAt,e1,Instr.sureAddr,storeVar,Sem.run_bind,Sem.run_pure,Result.andThen_ok,hsz,hsz2]
  simp [hrun]
 ·rw [hdst]
  show Rel cx _ a _ Z ω2
  have hR : Rel cx st' a (w.setCells b so (a.eval x).cells.toList) Z ω2 := by
   refine h1.modR hm e5 (QG e6 (ZO _ _ _)) ?_ ⟨us,i2,husl⟩ i1 (fun b hb => ⟨hb,i3 b hb⟩) ?_ i6 ?_
   ·intro cells hc q' hq'
    rw [hc,hq'] at e6
    simp only [ql,List.getElem?_cons_zero] at e6
    exact QG e6 (ZO _ _ _)
   ·intro r' hr' b0 x0 hb0
    refine ⟨i5 b0 _ hb0 Z8 (Zu hr'),i4 b0 _ hb0 (fun e => hr' (zH.path_inj e).1)⟩
   ·intro k0 hk0 b0 hb0
    refine i5 b0 _ hb0 (zY fun j2 r3 h => by simp at h) (zY fun j2 r3 h => ?_)
    rw [hk0] at h
    have hl2 := congrArg List.length h
    simp [zW,zH.path] at hl2
  refine { hR with hs := fun t' sv hm' => ?_ }
  rcases List.mem_append.1 hm' with hm' | hm'
  ·exact hR.hs t' sv hm'
  ·obtain ⟨g0,m,o',n',ag,rfl,hoff⟩ := zD5 hm'
   obtain ⟨k1,k2,k3⟩ := h1.hs t' _ g0
   refine ⟨k1,k2,fun j u hu => ?_⟩
   obtain ⟨b0,cur0,T0,f1,f2,f3⟩ := k3 j u hu
   have hbb : b0 = b := h1.inv.inj _ _ _ f1 e2
   subst hbb
   rw [e3] at f2
   cases f2
   obtain ⟨cur',c1,c2⟩ := zH2 (a.eval x).cells.toList so w cur e3
   have hj : j < n' := by
    rw [← k2]
    exact (Array.getElem?_eq_some_iff.1 hu).1
   refine ⟨b0,cur',T',i5 b0 _ f1 Z8 (zY fun j2 r3 hh => ?_),c1,?_⟩
   ·have h3 := congrArg List.length hh
    simp [spine,zW] at h3
   ·rw [c2 _ (by rw [hvl]; simp only [zk,Nat.zero_mul,Nat.zero_add]; omega)]
    exact f3
def zKv (T : Nat → Option TI) (st : St) (t : TypeId) (x : Operand) (k so n : Nat) (tcs : List CV) : Option St := match (qv T st t x).modR (CV.flatRow tcs) (.box k) [(0,0)] (setAt so tcs) with
 | some s => some { s with s := s.s ++ zA8 k so n (qv T st t x).s }
 | none => none
def zMR (T : Nat → Option TI) (st : St) (t : TypeId) (x : Operand) (k so n : Nat) (tcs : List CV) : St := match zKv T st t x k so n tcs with
 | some s => s
 | none => ⟨0,0,[],[]⟩
theorem LAt.storeO {P : Program} {cx : Cx} {T : Nat → Option TI} (hT : TOk P T) {ops : Array Oper} {n : Nat} {st : St} {K : St → Prop} {t ty : TypeId} {ad x : Operand} {g : Option (Nat × Bool)} (i : TI) (ag : Bool) (tcs : List CV) (k so : Nat) (e : List CV)
  (hop : opAt ops n = some (.store t ad x,none,ty,g)) (hg : gdT ops st g = true) (ht : T t = some i) (hx : (qw T st t x).map (fun tk => (tk.ag,tk.cs)) = some (ag,tcs)) (hl : (tcs.length == i.size) = true) (ha : adS (qv T st t x) ad = some ⟨.box k,[(0,0)],so,e⟩) (hle : Nat.ble (so + i.size) e.length = true)
  (hst : (zKv T st t x k so i.size tcs).isSome = true) (hk : LAt P cx ops (n + 1) (zMR T st t x k so i.size tcs) K) : LAt P cx ops n st K := by
 obtain ⟨st',hs⟩ := Option.isSome_iff_exists.1 hst
 unfold zMR at hk
 rw [hs] at hk
 unfold zKv at hs
 split at hs
 ·rename_i s2 hs2
  cases hs
  exact LAt.stepG hop hg rfl (fun o' ho hdst _ => zOB (tk := ⟨ag,tcs,qv T st t x⟩) hT ho hdst ht (zIR hx) (eq_of_beq hl) ha (Nat.le_of_ble_eq_true hle) hs2) hk
 ·cases hs
def St.grabT (st : St) (t : Nat) : Option St := match lk st.s t with
 | some (.ref (.box k) [(0,0)] m o n ag) => match lk st.b k with
  | some cs => bif (cs.length == m && Nat.ble (o + n) cs.length) && zm st t then
    some (St.put { st with s := St.modR.dropD (.box k) st.s ++ zA8 k o n st.s,b := (k,zCT o n cs) :: zBG (.box k) st.b } t (.val ag ((cs.drop o).take n)))
   else none
  | none => none
 | _ => none
theorem zME {a : Act} {t : Nat} (h : t < a.tmps.size) : a.put (some t) (a.tmps.getD t undef) = a := by
 have : a.tmps.setIfInBounds t (a.tmps.getD t undef) = a.tmps := by
  apply Array.ext_getElem?
  intro j
  rw [Array.getElem?_setIfInBounds]
  by_cases e : t = j
  ·subst e
   rw [if_pos rfl,if_pos h,Array.getD_eq_getD_getElem?,Array.getElem?_eq_getElem h]; rfl
  ·rw [if_neg e]
 cases a
 simp only [Act.put] at *
 rw [this]
theorem Rel.grab {cx st a w Z ω} (h : Rel cx st a w Z ω) {t : Nat} {st' : St} (hg : st.grabT t = some st') : ∃ Z' ω',Rel cx st' a w Z' ω' := by
 unfold St.grabT at hg
 split at hg
 ·rename_i k m o n ag hl
  split at hg
  ·rename_i cs hlb
   cases hc : ((cs.length == m && Nat.ble (o + n) cs.length) && zm st t) with
   | false => rw [hc] at hg; cases hg
   | true =>
    rw [hc] at hg
    simp only [cond_true,Option.some.injEq] at hg
    simp only [Bool.and_eq_true,beq_iff_eq,Nat.ble_eq] at hc
    obtain ⟨⟨c1,c2⟩,c3⟩ := hc
    have hrow : rowOf st (.box k) = some [.sl true cs.length [cs]] := by simp only [rowOf,hlb]
    have hgq : ql [.sl true cs.length [cs]] [(0,0)] = some cs := rfl
    obtain ⟨k1,k2,k3⟩ := zF7 h hl hrow hgq (.inr c1)
    have hlen : ((cs.drop o).take n).length = n := by simp; omega
    have hdl := zHL (e := cs) c2
    have hmod : st.modR false (.box k) [(0,0)] (zCT o n) = some { st with s := St.modR.dropD (.box k) st.s,b := (k,zCT o n cs) :: zBG (.box k) st.b } := by
     simp only [St.modR,hlb,cond_false,Zk]
    have hR : QR w Z ω ((zH.box k).path ++ zW [(0,0)]) o (a.tmps.getD t undef).cells.toList ((cs.drop o).take n) := by
     refine ⟨by rw [hlen,Array.length_toList]; exact k2,fun j c u hcc hu => ?_⟩
     have hj : j < n := by have := (List.getElem?_eq_some_iff.1 hcc).1; omega
     rw [List.getElem?_take,if_pos hj,List.getElem?_drop] at hcc
     exact k3 j u c (by simpa using hu) hcc
    have hm := hR.moved (D := [2,0]) (o2 := 0)
    rw [hlen] at hm
    have h1 : Rel cx { st with s := St.modR.dropD (.box k) st.s,b := (k,zCT o n cs) :: zBG (.box k) st.b } a w Z (ZS ((zH.box k).path ++ zW [(0,0)]) o n [2,0] 0 ω) := by
     refine h.modR hmod hrow (QG hgq hdl) ?_ ?_ (h.inv.reloc _ _ _ _ _) (fun b hb => ⟨hb,rfl⟩) ?_ (fun h => by cases h) ?_
     ·intro cells hcells q' hq'
      have h1 := (CV.sl.inj (List.cons.inj hcells).1).2.2
      have h1 := (List.cons.inj h1).1
      subst h1
      cases hq'
      exact hdl
     ·obtain ⟨us,hus,husl⟩ := h.row hrow
      refine ⟨us,?_,husl⟩
      refine ze.modq (bad := fun j => o ≤ j ∧ j < o + n) [(0,0)] _ _ _ cs hus hgq hdl (fun us' hu' => ?_) (fun b r' hb hn => ?_)
      ·refine ⟨by rw [hdl]; exact hu'.1,fun j c u hcc hu => ?_⟩
       rw [zJb c2] at hcc
       split at hcc
       ·cases hcc
        have hj : j < cs.length := by omega
        exact .dead _ _ (hu'.2 j cs[j] u (List.getElem?_eq_getElem hj) hu).one
       ·rename_i hj
        refine (hu'.2 j c u hcc hu).conv _ (fun b hb => ⟨hb,rfl⟩) fun b r2 hb => ⟨?_,rfl⟩
        exact zt hb (zY fun j2 r3 h => by
         rw [List.append_assoc] at h
         have := List.append_cancel_left h
         simp at this
         omega) (zY fun j2 r3 h => by
         rw [List.append_assoc,List.append_assoc] at h
         exact absurd h (Qf (.box k) 0 _ _))
      ·exact zt hb (zY fun j2 r3 h => by
        rw [List.append_assoc] at h
        have := List.append_cancel_left h
        intro hj2
        exact hn ⟨o + j2,r3,this,by omega,by omega⟩) Z8
     ·intro r' hr' b x hb
      exact ⟨zt hb (Zu hr') Z8,rfl⟩
     ·intro k0 hk0 b hb
      cases hk0
      refine zt hb (zY fun j2 r3 h => ?_) (zY fun j2 r3 h => by simp at h)
      have hl := congrArg List.length h
      simp [zW,zH.path] at hl
    have h2 : Rel cx { st with s := St.modR.dropD (.box k) st.s ++ zA8 k o n st.s,b := (k,zCT o n cs) :: zBG (.box k) st.b } a w Z (ZS ((zH.box k).path ++ zW [(0,0)]) o n [2,0] 0 ω) := by
     refine { h1 with hs := fun t' sv hm' => ?_ }
     rcases List.mem_append.1 hm' with hm' | hm'
     ·exact h1.hs t' sv hm'
     ·obtain ⟨g0,m',o',n',ag',rfl,hoff⟩ := zD5 hm'
      obtain ⟨q1,q2,q3⟩ := h.hs t' _ g0
      refine ⟨q1,q2,fun j u hu => ?_⟩
      obtain ⟨b0,cur0,T0,f1,f2,f3⟩ := q3 j u hu
      refine ⟨b0,cur0,T0,zt f1 (zY fun j2 r3 hh => ?_) Z8,f2,f3⟩
      have h3 := congrArg List.length hh
      simp [spine,zW,zH.path] at h3
    have ht : t < a.tmps.size := by rw [h.nt]; exact (qD c3).2
    obtain ⟨ω',h3⟩ := h2.putT (d := t) (qD c3) k1 (QR.zero.1 hm)
    rw [zME ht] at h3
    subst hg
    exact ⟨Z,ω',h3⟩
  ·cases hg
 ·cases hg
def St.grabU (st : St) (t : Nat) : St := match st.grabT t with
 | some s => s
 | none => ⟨0,0,[],[]⟩
theorem LAt.grab {P : Program} {cx : Cx} {ops : Array Oper} {i : Nat} {st : St} {K : St → Prop} (t : Nat) (h : (st.grabT t).isSome = true) (hk : LAt P cx ops i (st.grabU t) K) : LAt P cx ops i st K := fun a w Z ω Q hR hK => by
 obtain ⟨st',hs⟩ := Option.isSome_iff_exists.1 h
 unfold St.grabU at hk
 rw [hs] at hk
 obtain ⟨Z',ω',h1⟩ := hR.grab hs
 exact hk a w Z' ω' Q h1 hK
def zD1 (o n : Nat) (cs : List CV) : List CV := cs.take o ++ (CV.frzRow ((cs.drop o).take n) ++ cs.drop (o + n))
theorem zHm {o n : Nat} {cs : List CV} (h : o + n ≤ cs.length) : (zD1 o n cs).length = cs.length := by
 simp [zD1,CV.frzRow_eq]; omega
theorem zNw {o n : Nat} {cs : List CV} (h : o + n ≤ cs.length) (j : Nat) : (zD1 o n cs)[j]? = if o ≤ j ∧ j < o + n then (cs[j]?).map CV.frz else cs[j]? := by
 unfold zD1
 by_cases h1 : j < o
 ·rw [List.getElem?_append_left (by simp; omega),List.getElem?_take_of_lt h1,if_neg (by omega)]
 ·rw [List.getElem?_append_right (by simp; omega)]
  have : (cs.take o).length = o := by simp; omega
  rw [this]
  have hl : (CV.frzRow ((cs.drop o).take n)).length = n := by rw [CV.frzRow_eq,List.length_map]; simp; omega
  by_cases h2 : j < o + n
  ·rw [List.getElem?_append_left (by omega),if_pos (by omega),CV.frzRow_eq,List.getElem?_map,List.getElem?_take,if_pos (by omega),List.getElem?_drop]
   congr 2
   omega
  ·rw [List.getElem?_append_right (by omega),if_neg (by omega),List.getElem?_drop,hl]
   congr 1
   omega
def St.frzP (st : St) (k o n : Nat) : St := match lk st.b k with
 | some cs => bif Nat.ble (o + n) cs.length then { st with s := st.s.filter fun x => zG3 k x.2,b := (k,zD1 o n cs) :: zBG (.box k) st.b } else st
 | none => st
def zKb (k o n : Nat) (ω : Own) : Own := fun b => match ω b with
 | some p => (match inR [1,k,0,0] o n p with
  | some _ => none
  | none => some p)
 | none => none
theorem zEZ {k o n : Nat} {ω : Own} {b : Nat} {p : zi} (h : zKb k o n ω b = some p) : ω b = some p ∧ inR [1,k,0,0] o n p = none := by
 unfold zKb at h
 split at h
 ·rename_i q hq
  split at h
  ·cases h
  ·rename_i hn
   cases h
   exact ⟨hq,hn⟩
 ·cases h
theorem zEY {k o n : Nat} {ω : Own} {b : Nat} {p : zi} (h : ω b = some p) (hp : inR [1,k,0,0] o n p = none) : zKb k o n ω b = some p := by
 unfold zKb
 rw [h]
 simp only [hp]
theorem Rel.freezePart {cx st a w Z ω} (h : Rel cx st a w Z ω) {k o n : Nat} {cs : List CV} (hl : lk st.b k = some cs) (hon : o + n ≤ cs.length) : ∃ Z' ω',Rel cx { st with s := st.s.filter fun x => zG3 k x.2,b := (k,zD1 o n cs) :: zBG (.box k) st.b } a w Z' ω' := by
 obtain ⟨u,hu⟩ := h.hb k cs (zb hl)
 let Z1 : qh := fun b => Z b ∨ ∃ p j r,ω b = some p ∧ inR [1,k,0,0] o n p = some (j,r)
 have inv' : Inv cx w Z1 (zKb k o n ω) :=
  { h.inv with
   zsub := fun b hb => .inl (h.inv.zsub b hb)
   zold := fun b hb hlt h0 => by
    rcases hb with hb | ⟨p,j,r,hb,_⟩
    ·exact h.inv.zold b hb hlt h0
    ·exact absurd h0 (h.inv.wold b _ hb hlt)
   wold := fun b p hb hlt => h.inv.wold b p (zEZ hb).1 hlt
   disj := fun b p hz hb => by
    obtain ⟨k1,k2⟩ := zEZ hb
    rcases hz with hz | ⟨p',j,r,hz,hz2⟩
    ·exact h.inv.disj b p hz k1
    ·rw [k1] at hz; cases hz; rw [k2] at hz2; cases hz2
   inj := fun b b' p h1 h2 => h.inv.inj _ _ _ (zEZ h1).1 (zEZ h2).1
   lt := fun b p hb => h.inv.lt b p (zEZ hb).1
   zlt := fun b hb => by
    rcases hb with hb | ⟨p,j,r,hb,_⟩
    ·exact h.inv.zlt b hb
    ·exact h.inv.lt b _ hb }
 have hspine : inR [1,k,0,0] o n [1,k,0] = none := zY fun j r e => by simp at e
 refine ⟨Z1,zKb k o n ω,h.step (· = .box k) ⟨fun b hb => ⟨.inl hb,rfl⟩,fun r hr b x hb => ⟨zEY hb (zY fun j s e => ?_),rfl⟩,fun _ _ => rfl⟩ inv' h.nt h.df h.pin (fun t sv hm => ?_) (fun k' cs' hm => ?_)⟩
 ·exact absurd (zH.path_inj (r := r) (s := .box k) (x := x) (y := 0 :: 0 :: (o + j) :: s) e).1 hr
 ·obtain ⟨hm,hk⟩ := List.mem_filter.1 hm
  cases sv with
  | val ag cs => exact .inl ⟨hm,by intro e; cases e⟩
  | fad cs => exact .inl ⟨hm,by intro e; cases e⟩
  | tup vs => exact .inl ⟨hm,by intro e; cases e⟩
  | adr r q m o =>
   cases hr : r.eqb (.box k) with
   | false => exact .inl ⟨hm,zH.eqb_ff hr,by intro e; cases e⟩
   | true =>
    simp only [zG3,hr,Bool.not_true,Bool.false_or] at hk
    split at hk
    ·rename_i hq
     obtain ⟨b,e1,e2⟩ := h.hs t _ hm
     have : r = .box k := zH.eqb_iff.1 hr
     subst this
     right
     exact ⟨b,zEY e1 (by simpa [zH.path,spine] using hspine),e2⟩
    ·cases hk
  | ref r q m o n ag =>
   cases hr : r.eqb (.box k) with
   | false => exact .inl ⟨hm,zH.eqb_ff hr,by intro e; cases e⟩
   | true =>
    simp only [zG3,hr,Bool.not_true,Bool.false_or] at hk
    split at hk
    ·rename_i hq
     obtain ⟨e1,e2,e3⟩ := h.hs t _ hm
     have : r = .box k := zH.eqb_iff.1 hr
     subst this
     right
     refine ⟨e1,e2,fun j u hju => ?_⟩
     obtain ⟨b,cur,T,f1,f2,f3⟩ := e3 j u hju
     exact ⟨b,cur,T,zEY f1 (by simpa [zH.path,spine] using hspine),f2,f3⟩
    ·cases hk
 ·rcases List.mem_cons.1 hm with e | hm
  ·cases e
   right
   refine ⟨u,?_⟩
   refine ⟨by simp,fun j c v hc hv => ?_⟩
   cases j with
   | succ j => simp at hc
   | zero =>
    simp only [List.getElem?_cons_zero,Option.some.injEq] at hc
    have hc : .sl true (zD1 o n cs).length [zD1 o n cs] = c := hc
    subst hc
    have h0 := hu.2 0 _ v rfl hv
    rw [zHm hon]
    cases h0 with
    | own p b cap sz es us cur T hω hb hcap hm' hcs hsz hcc hr =>
     have hel : ∀ i j c,elC [zD1 o n cs] i j = some c → i = 0 ∧ ∃ c0,elC [cs] 0 j = some c0 ∧ c = (if o ≤ j ∧ j < o + n then c0.frz else c0) := by
      intro i j c hij
      obtain ⟨e,g1,g2⟩ := Qy hij
      have hi : i = 0 := by
       cases i with
       | zero => rfl
       | succ i => simp at g1
      subst hi
      simp only [List.getElem?_cons_zero,Option.some.injEq] at g1
      subst g1
      rw [zNw hon] at g2
      refine ⟨rfl,?_⟩
      split at g2
      ·rename_i hj
       cases hcj : cs[j]? with
       | none => rw [hcj] at g2; cases g2
       | some c0 => rw [hcj] at g2; exact ⟨c0,by simp [elC,hcj],by simp only [Option.map_some,Option.some.injEq] at g2; rw [if_pos hj,g2]⟩
      ·rename_i hj
       exact ⟨c,by simp [elC,g2],by rw [if_neg hj]⟩
     refine .own _ b cap _ [zD1 o n cs] us cur T (zEY hω (by simpa using hspine)) hb hcap hm' hcs (fun e he => ?_) (fun i j c hij => ?_) (fun i j c hij => ?_)
     ·rw [List.mem_singleton] at he
      subst he
      exact zHm hon
     ·obtain ⟨rfl,c0,e1,e2⟩ := hel i j c hij
      exact hcc 0 j c0 e1
     ·obtain ⟨rfl,c0,e1,rfl⟩ := hel i j c hij
      split
      ·rename_i hj
       refine (hr 0 j c0 e1).freeze _ (fun b hb => ⟨.inl hb,rfl⟩) fun b r hb => ⟨?_,rfl⟩
       refine .inr ⟨_,j - o,r,hb,Y0.2 ⟨?_,by omega⟩⟩
       simp only [List.cons_append,List.nil_append]
       rw [show o + (j - o) = j by omega]
      ·rename_i hj
       refine (hr 0 j c0 e1).conv _ (fun b hb => ⟨.inl hb,rfl⟩) fun b r hb => ⟨zEY hb (zY fun j2 r2 e => ?_),rfl⟩
       simp only [List.cons_append,List.nil_append,List.cons.injEq,true_and] at e
       omega
  ·have := Jv hm
   exact .inl ⟨this.1,zH.eqb_ff this.2⟩
theorem Tr.frzP {P : Program} {cx : Cx} {c : Code} {st : St} {Q : Exit → St → Prop} (k o n : Nat) (hk : Tr P cx c (st.frzP k o n) Q) : Tr P cx c st Q := fun a w Z ω hR => by
 unfold St.frzP at hk
 split at hk
 ·rename_i cs hl
  cases hc : Nat.ble (o + n) cs.length with
  | false => rw [hc] at hk; exact hk a w Z ω hR
  | true =>
   rw [hc] at hk
   obtain ⟨Z',ω',h1⟩ := hR.freezePart hl (Nat.le_of_ble_eq_true hc)
   exact hk a w Z' ω' h1
 ·exact hk a w Z ω hR
theorem zBm {st : St} {t m o sz : Nat} {r : zH} {q : List (Nat × Nat)} {own : Bool} {row e : List CV} {es : List (List CV)} (h1 : lk st.s t = some (.ref r q m o 1 false)) (hr : rowOf st r = some row) (hg : ql row q = some e) (hm : e.length = m) (he : e[o]? = some (.sl own sz es)) : slS st (.tmp t) = some ⟨r,q,o,own,sz,es⟩ := by
 have hc : (q.isEmpty || e.length == m) = true := by rw [hm]; simp
 simp only [slS,h1,hr,hg,hc,cond_true,he]
theorem zQe {α β : Type} {L : List α} {row : α → List CV} {o j sz : Nat} {v : α} {cs : List CV} {L2 : List β} {row2 : β → List CV} {o2 j2 sz2 : Nat} {v2 : β} (hc : cs[o]? = some (.sl true sz (L.map row))) (h : L[j]? = some v)
  (hc2 : (row v)[o2]? = some (.sl true sz2 (L2.map row2))) (h2 : L2[j2]? = some v2) : ql cs [(o,j),(o2,j2)] = some (row2 v2) := by
 have hj : (L.map row)[j]? = some (row v) := by rw [List.getElem?_map,h]; rfl
 have hj2 : (L2.map row2)[j2]? = some (row2 v2) := by rw [List.getElem?_map,h2]; rfl
 simp only [ql,hc,hj,hc2,hj2]
theorem zBZ {α β : Type} {L : List α} {row : α → List CV} {o j sz : Nat} {v : α} {cs : List CV} {L2 : List β} {row2 : β → List CV} {o2 j2 sz2 : Nat} {v2 : β} (hc : cs[o]? = some (.sl true sz (L.map row))) (h : L[j]? = some v)
  (hc2 : (row v)[o2]? = some (.sl true sz2 (L2.map row2))) (h2 : L2[j2]? = some v2) : ql [.sl true cs.length [cs]] [(0,0),(o,j),(o2,j2)] = some (row2 v2) := by
 have := zQe hc h hc2 h2
 simp only [ql,List.getElem?_cons_zero] at this ⊢
 exact this
theorem zG7 {α β : Type} {L : List α} {row : α → List CV} {o j sz : Nat} {v new : α} {cs : List CV} {L2 : List β} {row2 : β → List CV} {o2 j2 sz2 : Nat} {v2 new2 : β} {f : List CV → List CV} (hc : cs[o]? = some (.sl true sz (L.map row))) (h : L[j]? = some v)
  (hc2 : (row v)[o2]? = some (.sl true sz2 (L2.map row2))) (h2 : L2[j2]? = some v2) (hf : f (row2 v2) = row2 new2) (hn : (row v).set o2 (.sl true sz2 ((L2.set j2 new2).map row2)) = row new) :
  Zk f cs [(o,j),(o2,j2)] = cs.set o (.sl true sz ((L.set j new).map row)) := by
 have hj : (L.map row)[j]? = some (row v) := by rw [List.getElem?_map,h]; rfl
 have hj2 : (L2.map row2)[j2]? = some (row2 v2) := by rw [List.getElem?_map,h2]; rfl
 rw [Yn hc hj,zHt hc2 h2 hf,hn,List.map_set]
theorem LAt.indexD {P : Program} {cx : Cx} {T : Nat → Option TI} (hT : TOk P T) {ops : Array Oper} {n : Nat} {st : St} {K : St → Prop} {t ty et : TypeId} {x y : Operand} {d : Nat} {g : Option (Nat × Bool)} (ie : TI) (s : Yi) (k : IntKind) (i : Int) (j : Nat) (e : List CV)
  (hop : opAt ops n = some (.indexAddr t x y,some d,ty,g)) (hg : gdT ops st g = true) (hd : zm st d = true) (ht : Z7 T t = some et) (he : T et = some ie) (hs : (s.sz == ie.size) = true) (hy : qF st y = some (.int k i)) (hx : slS st x = some s) (hown : s.own = true) (hr : s.r.eqb (.slot d) = false) (hi : IsE s.es i e) (hj : i.toNat = j)
  (hk : LAt P cx ops (n + 1) (st.put d (.adr s.r (s.q ++ [(s.o,j)]) s.sz 0)) K) : LAt P cx ops n st K := by
 subst hj
 exact LAt.stepG hop hg hd (fun o ho hdst _ => zHv hT ho hdst (qD hd) ht he hx (eq_of_beq hs) hy hown hi hr) hk
end Go.TL
