import Derived.Test.YtajadnlejdpceaaTlU6
set_option linter.unusedVariables false
namespace Go.TL
def Qs {α : Type} (m : Nat) (row : α → List CV) : Option α → List CV
 | some v => row v
 | none => List.replicate m .dead
theorem zIU {α : Type} (n : Nat) (L : List α) (row : α → List CV) : cL n L row = cL n (L.map some) (Qs n row) := by
 unfold cL
 rw [List.map_map]
 rfl
def zD8 {α : Type} (xs : List (Option α)) (i : Int) : Option α := (idx xs i).bind id
theorem zC1 {α : Type} {xs : List (Option α)} {i : Int} {v : α} (h : zD8 xs i = some v) : 0 ≤ i ∧ xs[i.toNat]? = some (some v) := by
 unfold zD8 at h
 obtain ⟨o,h1,h2⟩ := bind_some h
 have : o = some v := h2
 subst this
 exact ZH h1
theorem zHS {α : Type} {xs : List (Option α)} {i : Int} {v : α} {m : Nat} {row : α → List CV} (h : zD8 xs i = some v) : IsE (xs.map (Qs m row)) i (Qs m row (some v)) := by
 obtain ⟨h0,h1⟩ := zC1 h
 exact ⟨h0,by rw [List.getElem?_map,h1]; rfl⟩
theorem zGu {T : Nat → Option TI} {st st' : St} {ty : TypeId} {t m o n : Nat} {r : zF} {q q' : List (Nat × Nat)} {ag : Bool} {row e cs cs' : List CV} (h1 : lk st.s t = some (.ref r q m o n ag)) (hrow : rowOf st r = some row) (hg : qB row q = some e) (hq : q ≠ []) (hm : e.length = m) (hon : o + n ≤ e.length)
  (hfl : CV.flatRow ((e.drop o).take n) = false) (hr : Yw st r = some cs) (hq' : zCb r q = some q') (hmod : qc (Y7 o n) cs q' = cs') (hst : st.modRX false r cs' = some st') : qE T st ty (.tmp t) = some ⟨ag,(e.drop o).take n,st'⟩ := by
 have hmr := zEH (kd := false) (f := Y7 o n) hr hq' hmod
 have hc : ((q.isEmpty || e.length == m) && Nat.ble (o + n) e.length) = true := by
  rw [hm]
  simp only [beq_self_eq_true,Bool.or_true,Bool.true_and]
  rw [← hm]
  exact Nat.ble_eq_true_of_le hon
 simp only [qE,h1,hrow,hg,hc,cond_true,hfl,cond_false]
 cases q with
 | nil => exact absurd rfl hq
 | cons y q => simp only [hmr,hst]
def zFS (kd : Bool) (st : St) (r : zF) (q : List (Nat × Nat)) (f : List CV → List CV) : St := match st.modR kd r q f with
 | some s => s
 | none => ⟨0,0,[],[]⟩
def zBz (st : St) (k o2 : Nat) (c : CV) : St := zGg false st (.slot k) ((YL st (.slot k)).set o2 c)
theorem LAt.storeT {P : Program} {cx : Cx} {T : Nat → Option TI} (hT : TOk P T) {ops : Array Oper} {n : Nat} {st S : St} {K : St → Prop} {t ty : TypeId} {ad x : Operand} {g : Option (Nat × Bool)} (i : TI) (ag : Bool) (tcs : List CV) (b o : Nat)
  (hop : opAt ops n = some (.store t ad x,none,ty,g)) (hg : gdT ops st g = true) (ht : T t = some i) (hx : qE T st t x = some ⟨ag,tcs,S⟩) (hl : tcs.length = i.size) (ha : adS S ad = some ⟨.box b,[(0,0)],o,YL S (.box b)⟩) (hle : Nat.ble (o + i.size) (YL S (.box b)).length = true)
  (hm : (S.modR (CV.flatRow tcs) (.box b) [(0,0)] (setAt o tcs)).isSome = true) (hk : LAt P cx ops (n + 1) (zFS (CV.flatRow tcs) S (.box b) [(0,0)] (setAt o tcs)) K) : LAt P cx ops n st K := by
 obtain ⟨st',hs⟩ := Option.isSome_iff_exists.1 hm
 unfold zFS at hk
 rw [hs] at hk
 exact LAt.stepG hop hg rfl (fun o' ho hdst _ => zFW hT ho hdst ht hx hl ha (Nat.le_of_ble_eq_true hle) hs) hk
theorem zGh {st : St} {kd : Bool} {r : zF} {cs : List CV} (h : (st.modRX kd r cs).isSome = true) : st.modRX kd r cs = some (zGg kd st r cs) := by
 unfold zGg
 cases hc : st.modRX kd r cs with
 | none => rw [hc] at h; cases h
 | some s => rfl
theorem LAt.storeG {P : Program} {cx : Cx} {T : Nat → Option TI} (hT : TOk P T) {ops : Array Oper} {n : Nat} {st : St} {K : St → Prop} {t ty : TypeId} {ad : Operand} {g : Option (Nat × Bool)} (i : TI) (ag : Bool) (x k o2 j m b o : Nat) {α : Type} (L : List (Option α)) (row : α → List CV) (v : α)
  (hop : opAt ops n = some (.store t ad (.tmp x),none,ty,g)) (hg : gdT ops st g = true) (ht : T t = some i) (h1 : lk st.s x = some (.ref (.slot k) [(o2,j)] m 0 m ag)) (hro : rowOf st (.slot k) = some (YL st (.slot k))) (hrr : Yw st (.slot k) = some (YL st (.slot k)))
  (hc : (YL st (.slot k))[o2]? = some (.sl true m (L.map (Qs m row)))) (hlen : (row v).length = m) (hsz : i.size = m) (hfl : CV.flatRow (row v) = false) (he : L[j]? = some (some v))
  (hs1 : (st.modRX false (.slot k) ((YL st (.slot k)).set o2 (.sl true m ((L.set j none).map (Qs m row))))).isSome = true) (ha : adS (zBz st k o2 (.sl true m ((L.set j none).map (Qs m row)))) ad = some ⟨.box b,[(0,0)],o,YL (zBz st k o2 (.sl true m ((L.set j none).map (Qs m row)))) (.box b)⟩)
  (hle : Nat.ble (o + i.size) (YL (zBz st k o2 (.sl true m ((L.set j none).map (Qs m row)))) (.box b)).length = true) (hm : ((zBz st k o2 (.sl true m ((L.set j none).map (Qs m row)))).modR (CV.flatRow (row v)) (.box b) [(0,0)] (setAt o (row v))).isSome = true)
  (hk : LAt P cx ops (n + 1) (zFS (CV.flatRow (row v)) (zBz st k o2 (.sl true m ((L.set j none).map (Qs m row)))) (.box b) [(0,0)] (setAt o (row v))) K) : LAt P cx ops n st K := by
 have hget : qB (YL st (.slot k)) [(o2,j)] = some (row v) := qY (row := Qs m row) (v := some v) hc he
 have hdead : Y7 0 m (row v) = Qs m row none := by
  simp only [Y7,Qs,List.take_zero,List.nil_append,Nat.zero_add]
  rw [List.drop_eq_nil_of_le (by omega),List.append_nil]
 have hmod : qc (Y7 0 m) (YL st (.slot k)) [(o2,j)] = (YL st (.slot k)).set o2 (.sl true m ((L.set j none).map (Qs m row))) := zEj (row := Qs m row) (v := some v) (new := none) hc he hdead
 have htk := zGu (T := T) (ty := t) h1 hro hget (by intro h; cases h) hlen (by omega) (by rw [List.drop_zero,List.take_of_length_le (by omega)]; exact hfl) hrr rfl hmod (zGh hs1)
 rw [List.drop_zero,List.take_of_length_le (by omega)] at htk
 exact LAt.storeT hT i ag (row v) b o hop hg ht htk (by omega) ha hle hm hk
end Go.TL
