import Derived.WalkKit
import Derived.Below
import Derived.OrdersHeld
namespace Go.TL
abbrev zU := List Nat
abbrev Own := Nat → Option zU
abbrev qM := Nat → Prop
inductive CV where
 | lit (v : Value)
 | sl (own : Bool) (sz : Nat) (es : List (List CV))
 | dead
def elC (es : List (List CV)) (i j : Nat) : Option CV := (es[i]?).bind (·[j]?)
theorem zIu {es : List (List CV)} {i j : Nat} {c : CV} (h : elC es i j = some c) : es ≠ [] := by
 intro e; subst e; simp [elC] at h
def CV.flat : CV → Bool
 | .lit _ => true
 | .sl own _ _ => !own
 | .dead => true
def CV.flatRow : List CV → Bool
 | [] => true
 | c :: cs => c.flat && CV.flatRow cs
theorem CV.flatRow_eq (cs : List CV) : CV.flatRow cs = cs.all CV.flat := by
 induction cs with
 | nil => rfl
 | cons c cs ih => simp only [CV.flatRow,List.all_cons,ih]
inductive zf (w : World) (Z : qM) (ω : Own) : zU → Value → CV → Prop
 | lit (p : zU) (v : Value) (h : v.oneCell' = true) : zf w Z ω p v (.lit v)
 | dead (p : zU) (v : Value) (h : v.oneCell' = true) : zf w Z ω p v .dead
 | nil (p : zU) (own : Bool) (sz : Nat) : zf w Z ω p (.slice none 0 0) (.sl own sz [])
 | fro (p : zU) (a : Addr) (cap sz : Nat) (es : List (List CV)) (us : Nat → Nat → Value)
   (hs : es ≠ [] → a.spot = none) (hZ : es ≠ [] → Z a.block) (hcap : es.length ≤ cap) (hm : cap ≤ maxLen) (hsz : ∀ e ∈ es,e.length = sz) (hf : ∀ i j c,elC es i j = some c → c.flat = true)
   (hc : ∀ i j c,elC es i j = some c → w.cell? ⟨a.block,a.off + (i * sz + j),none⟩ = some (us i j))
   (hr : ∀ i j c,elC es i j = some c → zf w Z ω (p ++ [i,j]) (us i j) c) :
   zf w Z ω p (.slice (some a) es.length cap) (.sl false sz es)
 | own (p : zU) (b cap sz : Nat) (es : List (List CV)) (us : Nat → Nat → Value) (cur : Array Value) (T : TypeId)
   (hω : ω b = some p) (hb : w.heap[b]? = some (.cells cur T (0,0))) (hcap : es.length ≤ cap) (hm : cap ≤ maxLen) (hcs : cur.size = cap * sz) (hsz : ∀ e ∈ es,e.length = sz)
   (hc : ∀ i j c,elC es i j = some c → cur[i * sz + j]? = some (us i j))
   (hr : ∀ i j c,elC es i j = some c → zf w Z ω (p ++ [i,j]) (us i j) c) :
   zf w Z ω p (.slice (some ⟨b,0,none⟩) es.length cap) (.sl true sz es)
theorem zf.one {w Z ω p v c} (h : zf w Z ω p v c) : v.oneCell' = true := by
 cases h <;> first | assumption | rfl
theorem zf.conv {w w' : World} {Z Z' : qM} {ω ω' : Own} {p : zU} {v : Value} {c : CV} (h : zf w Z ω p v c) :
  ∀ p',(∀ b,Z b → Z' b ∧ w'.heap[b]? = w.heap[b]?) → (∀ b r,ω b = some (p ++ r) → ω' b = some (p' ++ r) ∧ w'.heap[b]? = w.heap[b]?) → zf w' Z' ω' p' v c := by
 induction h with
 | lit p v h => exact fun p' _ _ => .lit p' v h
 | dead p v h => exact fun p' _ _ => .dead p' v h
 | nil p own sz => exact fun p' _ _ => .nil p' own sz
 | fro p a cap sz es us hs hZ hcap hm hsz hf hc hr ih =>
  intro p' h1 h2
  refine .fro p' a cap sz es us hs (fun hne => (h1 _ (hZ hne)).1) hcap hm hsz hf (fun i j c hij => ?_) (fun i j c hij => ?_)
  ·rw [← hc i j c hij]
   exact World.cell?_of_block (h1 _ (hZ (zIu hij))).2
  ·refine ih i j c hij _ h1 fun b r hb => ?_
   have := h2 b ([i,j] ++ r) (by rw [hb,List.append_assoc])
   rw [this.1,List.append_assoc]
   exact ⟨rfl,this.2⟩
 | own p b cap sz es us cur T hω hb hcap hm hcs hsz hc hr ih =>
  intro p' h1 h2
  have h0 := h2 b [] (by rw [hω,List.append_nil])
  rw [List.append_nil] at h0
  refine .own p' b cap sz es us cur T h0.1 (h0.2.trans hb) hcap hm hcs hsz hc (fun i j c hij => ?_)
  refine ih i j c hij _ h1 fun b r hb => ?_
  have := h2 b ([i,j] ++ r) (by rw [hb,List.append_assoc])
  rw [this.1,List.append_assoc]
  exact ⟨rfl,this.2⟩
mutual
def CV.frz : CV → CV
 | .lit v => .lit v
 | .sl _ sz es => .sl false sz (CV.frzEs es)
 | .dead => .dead
def CV.frzEs : List (List CV) → List (List CV)
 | [] => []
 | e :: es => CV.frzRow e :: CV.frzEs es
def CV.frzRow : List CV → List CV
 | [] => []
 | c :: cs => c.frz :: CV.frzRow cs
end
theorem CV.frz_flat (c : CV) : c.frz.flat = true := by cases c <;> rfl
theorem CV.frzRow_eq (cs : List CV) : CV.frzRow cs = cs.map CV.frz := by
 induction cs with
 | nil => rfl
 | cons c cs ih => simp only [CV.frzRow,List.map_cons,ih]
theorem CV.frzEs_eq (es : List (List CV)) : CV.frzEs es = es.map CV.frzRow := by
 induction es with
 | nil => rfl
 | cons c cs ih => simp only [CV.frzEs,List.map_cons,ih]
theorem CV.frzEs_length (es : List (List CV)) : (CV.frzEs es).length = es.length := by rw [frzEs_eq,List.length_map]
theorem zL4 (es : List (List CV)) (i j : Nat) : elC (CV.frzEs es) i j = (elC es i j).map CV.frz := by
 unfold elC
 rw [CV.frzEs_eq,List.getElem?_map]
 cases es[i]? with
 | none => rfl
 | some e => simp [CV.frzRow_eq]
theorem Ql {es : List (List CV)} {i j : Nat} {c : CV} (h : elC (CV.frzEs es) i j = some c) : ∃ c0,elC es i j = some c0 ∧ c0.frz = c := by
 rw [zL4] at h
 cases h0 : elC es i j with
 | none => rw [h0] at h; cases h
 | some c0 => rw [h0] at h; exact ⟨c0,rfl,by simpa using h⟩
theorem zf.freeze {w w' : World} {Z Z' : qM} {ω ω' : Own} {p : zU} {v : Value} {c : CV} (h : zf w Z ω p v c) :
  ∀ p',(∀ b,Z b → Z' b ∧ w'.heap[b]? = w.heap[b]?) → (∀ b r,ω b = some (p ++ r) → Z' b ∧ w'.heap[b]? = w.heap[b]?) → zf w' Z' ω' p' v c.frz := by
 induction h with
 | lit p v h => exact fun p' _ _ => .lit p' v h
 | dead p v h => exact fun p' _ _ => .dead p' v h
 | nil p own sz => exact fun p' _ _ => .nil p' false sz
 | fro p a cap sz es us hs hZ hcap hm hsz hf hc hr ih =>
  intro p' h1 h2
  simp only [CV.frz]
  rw [← CV.frzEs_length es]
  refine .fro p' a cap sz _ us (fun hne => hs (fun e => by subst e; exact hne rfl)) (fun hne => (h1 _ (hZ (fun e => by subst e; exact hne rfl))).1) (by rw [CV.frzEs_length]; exact hcap) hm ?_ (fun i j c hij => by obtain ⟨c0,_,rfl⟩ := Ql hij; exact c0.frz_flat) (fun i j c hij => ?_) (fun i j c hij => ?_)
  ·intro e he
   rw [CV.frzEs_eq,List.mem_map] at he
   obtain ⟨e0,he0,rfl⟩ := he
   rw [CV.frzRow_eq,List.length_map]
   exact hsz e0 he0
  ·obtain ⟨c0,h0,rfl⟩ := Ql hij
   rw [← hc i j c0 h0]
   exact World.cell?_of_block (h1 _ (hZ (zIu h0))).2
  ·obtain ⟨c0,h0,rfl⟩ := Ql hij
   refine ih i j c0 h0 _ h1 fun b r hb => ?_
   exact h2 b ([i,j] ++ r) (by rw [hb,List.append_assoc])
 | own p b cap sz es us cur T hω hb hcap hm hcs hsz hc hr ih =>
  intro p' h1 h2
  have h0 := h2 b [] (by rw [hω,List.append_nil])
  simp only [CV.frz]
  rw [← CV.frzEs_length es]
  refine .fro p' ⟨b,0,none⟩ cap sz _ us (fun _ => rfl) (fun _ => h0.1) (by rw [CV.frzEs_length]; exact hcap) hm ?_ (fun i j c hij => by obtain ⟨c0,_,rfl⟩ := Ql hij; exact c0.frz_flat) (fun i j c hij => ?_) (fun i j c hij => ?_)
  ·intro e he
   rw [CV.frzEs_eq,List.mem_map] at he
   obtain ⟨e0,he0,rfl⟩ := he
   rw [CV.frzRow_eq,List.length_map]
   exact hsz e0 he0
  ·obtain ⟨c0,hc0,rfl⟩ := Ql hij
   have := hc i j c0 hc0
   simp only [Nat.zero_add]
   rw [World.cell?]
   simp only [h0.2,hb]
   simpa using this
  ·obtain ⟨c0,hc0,rfl⟩ := Ql hij
   refine ih i j c0 hc0 _ h1 fun b r hb => ?_
   exact h2 b ([i,j] ++ r) (by rw [hb,List.append_assoc])
theorem zf.flat_conv {w w' : World} {Z Z' : qM} {ω ω' : Own} {p : zU} {v : Value} {c : CV} (h : zf w Z ω p v c) :
  c.flat = true → ∀ p',(∀ b,Z b → Z' b ∧ w'.heap[b]? = w.heap[b]?) → zf w' Z' ω' p' v c := by
 induction h with
 | lit p v h => exact fun _ p' _ => .lit p' v h
 | dead p v h => exact fun _ p' _ => .dead p' v h
 | nil p own sz => exact fun _ p' _ => .nil p' own sz
 | fro p a cap sz es us hs hZ hcap hm hsz hf hc hr ih =>
  intro _ p' h1
  refine .fro p' a cap sz es us hs (fun hne => (h1 _ (hZ hne)).1) hcap hm hsz hf (fun i j c hij => ?_) (fun i j c hij => ?_)
  ·rw [← hc i j c hij]
   exact World.cell?_of_block (h1 _ (hZ (zIu hij))).2
  ·exact ih i j c hij (hf i j c hij) _ h1
 | own p b cap sz es us cur T hω hb hcap hm hcs hsz hc hr ih =>
  intro hf
  simp [CV.flat] at hf
def zS (w : World) (Z : qM) (ω : Own) (p : zU) (us : List Value) (cs : List CV) : Prop :=
 us.length = cs.length ∧ ∀ (j : Nat) c u,cs[j]? = some c → us[j]? = some u → zf w Z ω (p ++ [j]) u c
theorem zS.get {w Z ω p us cs} (h : zS w Z ω p us cs) {j : Nat} {c : CV} (hc : cs[j]? = some c) : ∃ u,us[j]? = some u ∧ zf w Z ω (p ++ [j]) u c := by
 have hj : j < us.length := by rw [h.1]; exact (List.getElem?_eq_some_iff.1 hc).1
 exact ⟨us[j],List.getElem?_eq_getElem hj,h.2 j c _ hc (List.getElem?_eq_getElem hj)⟩
theorem zS.conv {w w' : World} {Z Z' : qM} {ω ω' : Own} {p : zU} {us : List Value} {cs : List CV} (h : zS w Z ω p us cs) (p' : zU)
  (h1 : ∀ b,Z b → Z' b ∧ w'.heap[b]? = w.heap[b]?) (h2 : ∀ b r,ω b = some (p ++ r) → ω' b = some (p' ++ r) ∧ w'.heap[b]? = w.heap[b]?) : zS w' Z' ω' p' us cs := by
 refine ⟨h.1,fun j c u hc hu => (h.2 j c u hc hu).conv _ h1 fun b r hb => ?_⟩
 have := h2 b ([j] ++ r) (by rw [hb,List.append_assoc])
 rw [this.1,List.append_assoc]
 exact ⟨rfl,this.2⟩
theorem zS.freeze {w w' : World} {Z Z' : qM} {ω ω' : Own} {p : zU} {us : List Value} {cs : List CV} (h : zS w Z ω p us cs) (p' : zU)
  (h1 : ∀ b,Z b → Z' b ∧ w'.heap[b]? = w.heap[b]?) (h2 : ∀ b r,ω b = some (p ++ r) → Z' b ∧ w'.heap[b]? = w.heap[b]?) : zS w' Z' ω' p' us (CV.frzRow cs) := by
 refine ⟨by rw [CV.frzRow_eq,List.length_map]; exact h.1,fun j c u hc hu => ?_⟩
 rw [CV.frzRow_eq,List.getElem?_map] at hc
 cases h0 : cs[j]? with
 | none => rw [h0] at hc; cases hc
 | some c0 =>
  rw [h0] at hc
  have : c0.frz = c := by simpa using hc
  subst this
  exact (h.2 j c0 u h0 hu).freeze _ h1 fun b r hb => h2 b ([j] ++ r) (by rw [hb,List.append_assoc])
theorem zS.flat_conv {w w' : World} {Z Z' : qM} {ω ω' : Own} {p : zU} {us : List Value} {cs : List CV} (h : zS w Z ω p us cs) (hf : CV.flatRow cs = true) (p' : zU)
  (h1 : ∀ b,Z b → Z' b ∧ w'.heap[b]? = w.heap[b]?) : zS w' Z' ω' p' us cs := by
 rw [CV.flatRow_eq,List.all_eq_true] at hf
 exact ⟨h.1,fun j c u hc hu => (h.2 j c u hc hu).flat_conv (hf c (List.mem_of_getElem? hc)) _ h1⟩
end Go.TL
