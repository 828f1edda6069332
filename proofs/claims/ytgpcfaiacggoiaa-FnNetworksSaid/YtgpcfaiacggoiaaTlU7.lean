/- What an element owns is taken out of a list: into a variable. -/
import Derived.Test.YtgpcfaiacggoiaaTlU6
set_option linter.unusedVariables false
namespace Go.TL

def rowO {α : Type} (m : Nat) (row : α → List CV) : Option α → List CV
  | some v => row v
  | none => List.replicate m .dead
theorem cL_opt {α : Type} (n : Nat) (L : List α) (row : α → List CV) : cL n L row = cL n (L.map some) (rowO n row) := by
  unfold cL
  rw [List.map_map]
  rfl
def idxO {α : Type} (xs : List (Option α)) (i : Int) : Option α := (idx xs i).bind id
theorem idxO_get {α : Type} {xs : List (Option α)} {i : Int} {v : α} (h : idxO xs i = some v) : 0 ≤ i ∧ xs[i.toNat]? = some (some v) := by
  unfold idxO at h
  obtain ⟨o, h1, h2⟩ := bind_some h
  have : o = some v := h2
  subst this
  exact idx_get h1
theorem idxO_isE {α : Type} {xs : List (Option α)} {i : Int} {v : α} {m : Nat} {row : α → List CV} (h : idxO xs i = some v) : IsE (xs.map (rowO m row)) i (rowO m row (some v)) := by
  obtain ⟨h0, h1⟩ := idxO_get h
  exact ⟨h0, by rw [List.getElem?_map, h1]; rfl⟩

theorem takeS_deep {T : Nat → Option TI} {st st' : St} {ty : TypeId} {t m o n : Nat} {r : Root} {q q' : List (Nat × Nat)} {ag : Bool} {row e cs cs' : List CV} (h1 : lk st.s t = some (.ref r q m o n ag)) (hrow : rowOf st r = some row) (hg : getQ row q = some e) (hq : q ≠ []) (hm : e.length = m) (hon : o + n ≤ e.length)
    (hfl : CV.flatRow ((e.drop o).take n) = false) (hr : rootRow st r = some cs) (hq' : rootQ r q = some q') (hmod : modQ (deadAt o n) cs q' = cs') (hst : st.modRX false r cs' = some st') : takeS T st ty (.tmp t) = some ⟨ag, (e.drop o).take n, st'⟩ := by
  have hmr := modR_of (kd := false) (f := deadAt o n) hr hq' hmod
  have hc : ((q.isEmpty || e.length == m) && Nat.ble (o + n) e.length) = true := by
    rw [hm]
    simp only [beq_self_eq_true, Bool.or_true, Bool.true_and]
    rw [← hm]
    exact Nat.ble_eq_true_of_le hon
  simp only [takeS, h1, hrow, hg, hc, cond_true, hfl, cond_false]
  cases q with
  | nil => exact absurd rfl hq
  | cons y q => simp only [hmr, hst]

def modRSt (kd : Bool) (st : St) (r : Root) (q : List (Nat × Nat)) (f : List CV → List CV) : St := match st.modR kd r q f with
  | some s => s
  | none => ⟨0, 0, [], []⟩
def grabSt (st : St) (k o2 : Nat) (c : CV) : St := modSt false st (.slot k) ((rowC st (.slot k)).set o2 c)

theorem LAt.storeT {P : Program} {cx : Cx} {T : Nat → Option TI} (hT : TOk P T) {ops : Array Oper} {n : Nat} {st S : St} {K : St → Prop} {t ty : TypeId} {ad x : Operand} {g : Option (Nat × Bool)} (i : TI) (ag : Bool) (tcs : List CV) (b o : Nat)
    (hop : opAt ops n = some (.store t ad x, none, ty, g)) (hg : gdT ops st g = true) (ht : T t = some i) (hx : takeS T st t x = some ⟨ag, tcs, S⟩) (hl : tcs.length = i.size) (ha : adS S ad = some ⟨.box b, [(0, 0)], o, rowC S (.box b)⟩) (hle : Nat.ble (o + i.size) (rowC S (.box b)).length = true)
    (hm : (S.modR (CV.flatRow tcs) (.box b) [(0, 0)] (setAt o tcs)).isSome = true) (hk : LAt P cx ops (n + 1) (modRSt (CV.flatRow tcs) S (.box b) [(0, 0)] (setAt o tcs)) K) : LAt P cx ops n st K := by
  obtain ⟨st', hs⟩ := Option.isSome_iff_exists.1 hm
  unfold modRSt at hk
  rw [hs] at hk
  exact LAt.stepG hop hg rfl (fun o' ho hdst _ => op_store hT ho hdst ht hx hl ha (Nat.le_of_ble_eq_true hle) hs) hk

theorem modSt_some {st : St} {kd : Bool} {r : Root} {cs : List CV} (h : (st.modRX kd r cs).isSome = true) : st.modRX kd r cs = some (modSt kd st r cs) := by
  unfold modSt
  cases hc : st.modRX kd r cs with
  | none => rw [hc] at h; cases h
  | some s => rfl

/-- A whole element, out of a list that may have holes. -/
theorem LAt.storeG {P : Program} {cx : Cx} {T : Nat → Option TI} (hT : TOk P T) {ops : Array Oper} {n : Nat} {st : St} {K : St → Prop} {t ty : TypeId} {ad : Operand} {g : Option (Nat × Bool)} (i : TI) (ag : Bool) (x k o2 j m b o : Nat) {α : Type} (L : List (Option α)) (row : α → List CV) (v : α)
    (hop : opAt ops n = some (.store t ad (.tmp x), none, ty, g)) (hg : gdT ops st g = true) (ht : T t = some i) (h1 : lk st.s x = some (.ref (.slot k) [(o2, j)] m 0 m ag)) (hro : rowOf st (.slot k) = some (rowC st (.slot k))) (hrr : rootRow st (.slot k) = some (rowC st (.slot k)))
    (hc : (rowC st (.slot k))[o2]? = some (.sl true m (L.map (rowO m row)))) (hlen : (row v).length = m) (hsz : i.size = m) (hfl : CV.flatRow (row v) = false) (he : L[j]? = some (some v))
    (hs1 : (st.modRX false (.slot k) ((rowC st (.slot k)).set o2 (.sl true m ((L.set j none).map (rowO m row))))).isSome = true) (ha : adS (grabSt st k o2 (.sl true m ((L.set j none).map (rowO m row)))) ad = some ⟨.box b, [(0, 0)], o, rowC (grabSt st k o2 (.sl true m ((L.set j none).map (rowO m row)))) (.box b)⟩)
    (hle : Nat.ble (o + i.size) (rowC (grabSt st k o2 (.sl true m ((L.set j none).map (rowO m row)))) (.box b)).length = true) (hm : ((grabSt st k o2 (.sl true m ((L.set j none).map (rowO m row)))).modR (CV.flatRow (row v)) (.box b) [(0, 0)] (setAt o (row v))).isSome = true)
    (hk : LAt P cx ops (n + 1) (modRSt (CV.flatRow (row v)) (grabSt st k o2 (.sl true m ((L.set j none).map (rowO m row)))) (.box b) [(0, 0)] (setAt o (row v))) K) : LAt P cx ops n st K := by
  have hget : getQ (rowC st (.slot k)) [(o2, j)] = some (row v) := getQ_elem (row := rowO m row) (v := some v) hc he
  have hdead : deadAt 0 m (row v) = rowO m row none := by
    simp only [deadAt, rowO, List.take_zero, List.nil_append, Nat.zero_add]
    rw [List.drop_eq_nil_of_le (by omega), List.append_nil]
  have hmod : modQ (deadAt 0 m) (rowC st (.slot k)) [(o2, j)] = (rowC st (.slot k)).set o2 (.sl true m ((L.set j none).map (rowO m row))) := modQ_elem (row := rowO m row) (v := some v) (new := none) hc he hdead
  have htk := takeS_deep (T := T) (ty := t) h1 hro hget (by intro h; cases h) hlen (by omega) (by rw [List.drop_zero, List.take_of_length_le (by omega)]; exact hfl) hrr rfl hmod (modSt_some hs1)
  rw [List.drop_zero, List.take_of_length_le (by omega)] at htk
  exact LAt.storeT hT i ag (row v) b o hop hg ht htk (by omega) ha hle hm hk

/-- A part of an element; the list is not looked at again. -/
theorem LAt.storeGD {P : Program} {cx : Cx} {T : Nat → Option TI} (hT : TOk P T) {ops : Array Oper} {n : Nat} {st : St} {K : St → Prop} {t ty : TypeId} {ad : Operand} {g : Option (Nat × Bool)} (i : TI) (ag : Bool) (x k o2 j m o1 n1 b o : Nat) {α : Type} (L : List α) (row : α → List CV) (v : α) (tcs : List CV)
    (hop : opAt ops n = some (.store t ad (.tmp x), none, ty, g)) (hg : gdT ops st g = true) (ht : T t = some i) (h1 : lk st.s x = some (.ref (.slot k) [(o2, j)] m o1 n1 ag)) (hro : rowOf st (.slot k) = some (rowC st (.slot k))) (hrr : rootRow st (.slot k) = some (rowC st (.slot k)))
    (hc : (rowC st (.slot k))[o2]? = some (.sl true m (L.map row))) (hlen : (row v).length = m) (hon : Nat.ble (o1 + n1) m = true) (hsz : tcs.length = i.size) (htc : ((row v).drop o1).take n1 = tcs) (hfl : CV.flatRow tcs = false) (he : L[j]? = some v)
    (hs1 : (st.modRX false (.slot k) ((rowC st (.slot k)).set o2 (.sl true m ((L.map row).set j (deadAt o1 n1 (row v)))))).isSome = true) (ha : adS (grabSt st k o2 (.sl true m ((L.map row).set j (deadAt o1 n1 (row v))))) ad = some ⟨.box b, [(0, 0)], o, rowC (grabSt st k o2 (.sl true m ((L.map row).set j (deadAt o1 n1 (row v))))) (.box b)⟩)
    (hle : Nat.ble (o + i.size) (rowC (grabSt st k o2 (.sl true m ((L.map row).set j (deadAt o1 n1 (row v))))) (.box b)).length = true) (hm : ((grabSt st k o2 (.sl true m ((L.map row).set j (deadAt o1 n1 (row v))))).modR (CV.flatRow tcs) (.box b) [(0, 0)] (setAt o tcs)).isSome = true)
    (hk : LAt P cx ops (n + 1) (modRSt (CV.flatRow tcs) (grabSt st k o2 (.sl true m ((L.map row).set j (deadAt o1 n1 (row v))))) (.box b) [(0, 0)] (setAt o tcs)) K) : LAt P cx ops n st K := by
  subst htc
  have hget : getQ (rowC st (.slot k)) [(o2, j)] = some (row v) := getQ_elem hc he
  have hj : (L.map row)[j]? = some (row v) := by rw [List.getElem?_map, he]; rfl
  have hmod : modQ (deadAt o1 n1) (rowC st (.slot k)) [(o2, j)] = (rowC st (.slot k)).set o2 (.sl true m ((L.map row).set j (deadAt o1 n1 (row v)))) := modQ_cons hc hj
  have htk := takeS_deep (T := T) (ty := t) h1 hro hget (by intro h; cases h) hlen (by rw [hlen]; exact Nat.le_of_ble_eq_true hon) hfl hrr rfl hmod (modSt_some hs1)
  exact LAt.storeT hT i ag _ b o hop hg ht htk hsz ha hle hm hk

end Go.TL
