import Derived.Test.YtajadnlejdpceaaTlRow
import Derived.Test.YtajadnlejdpceaaTlRule
set_option linter.unusedVariables false
namespace Go.TL
def intRow (n : Int) : List CV := [.lit (.int .i64 n)]
def zx (n : Int) : List CV := [.lit (.int .u8 n)]
def boolRow (b : Bool) : List CV := [.lit (.bool b)]
def zu (n : Int) : Prop := (Lit.int .i64 n).wf = true
def zIq (n : Int) : Prop := (Lit.int .u8 n).wf = true
def zMm (b : Bool) : Prop := True
def Enc (α : Type) (ls : List Lf) (row : α → List CV) (wf : α → Prop) : Prop := ∀ cs,Zt ls cs → ∃ v,cs = CV.frzRow (row v) ∧ wf v
def Q7 {α : Type} (wf : α → Prop) (xs : List α) : Prop := xs.length ≤ maxLen ∧ ∀ x ∈ xs,wf x
theorem Enc.list {α : Type} {ls : List Lf} {row : α → List CV} {wf : α → Prop} (h : Enc α ls row wf) : ∀ (es : List (List CV)),(∀ r ∈ es,Zt ls r) → ∃ xs : List α,es = CV.frzEs (xs.map row) ∧ ∀ x ∈ xs,wf x
 | [],_ => ⟨[],rfl,fun x hx => by cases hx⟩
 | r :: es,hr => by
  obtain ⟨v,h1,h2⟩ := h r (hr r (by simp))
  obtain ⟨xs,h3,h4⟩ := Enc.list h es fun r' h' => hr r' (by simp [h'])
  refine ⟨v :: xs,by rw [h1,h3]; rfl,fun x hx => ?_⟩
  rcases List.mem_cons.1 hx with e | hx
  ·rw [e]; exact h2
  ·exact h4 x hx
theorem Enc.sl {α : Type} {ls : List Lf} {row : α → List CV} {wf : α → Prop} (h : Enc α ls row wf) {sz : Nat} {c : CV} (hc : YJ (.sl sz ls) c) : ∃ xs : List α,c = .sl false sz (CV.frzEs (xs.map row)) ∧ Q7 wf xs := by
 simp only [YJ] at hc
 obtain ⟨es,rfl,h1,h2⟩ := hc
 obtain ⟨xs,rfl,h3⟩ := h.list es h2
 refine ⟨xs,rfl,?_,h3⟩
 rwa [CV.frzEs_length,List.length_map] at h1
theorem zZ {k : IntKind} {c : CV} (h : YJ (.int k) c) : ∃ n,c = .lit (.int k n) ∧ (Lit.int k n).wf = true := by simpa only [YJ] using h
theorem zB1 {c : CV} (h : YJ .bool c) : ∃ b,c = .lit (.bool b) := by simpa only [YJ] using h
theorem zLS {c : CV} (h : YJ .str c) : ∃ s : ByteArray,c = .lit (.string s) ∧ s.size ≤ maxLen := by simpa only [YJ] using h
theorem zKr : Enc Int [.int .i64] intRow zu := fun cs h => by
 obtain ⟨c,r,rfl,h1,h2⟩ := zH h
 obtain ⟨n,rfl,h3⟩ := zZ h1
 obtain rfl := QF h2
 exact ⟨n,rfl,h3⟩
theorem zJt : Enc Int [.int .u8] zx zIq := fun cs h => by
 obtain ⟨c,r,rfl,h1,h2⟩ := zH h
 obtain ⟨n,rfl,h3⟩ := zZ h1
 obtain rfl := QF h2
 exact ⟨n,rfl,h3⟩
theorem zNE : Enc Bool [.bool] boolRow zMm := fun cs h => by
 obtain ⟨c,r,rfl,h1,h2⟩ := zH h
 obtain ⟨n,rfl⟩ := zB1 h1
 obtain rfl := QF h2
 exact ⟨n,rfl,trivial⟩
def idx {α : Type} (xs : List α) (i : Int) : Option α := if 0 ≤ i then xs[i.toNat]? else none
theorem YD {α : Type} {xs : List α} {i : Int} {v : α} {row : α → List CV} (h : idx xs i = some v) : IsE (xs.map row) i (row v) := by
 unfold idx at h
 split at h
 ·rename_i h0
  exact ⟨h0,by rw [List.getElem?_map,h]; rfl⟩
 ·cases h
theorem zHb {α : Type} {xs : List α} {i : Int} {v : α} {row : α → List CV} (h : idx xs i = some v) : IsE (CV.frzEs (xs.map row)) i (CV.frzRow (row v)) := by
 obtain ⟨h1,h2⟩ := YD (row := row) h
 exact ⟨h1,by rw [CV.frzEs_eq,List.getElem?_map,h2]; rfl⟩
theorem zF {α : Type} {xs : List α} {i : Int} {v : α} (h : idx xs i = some v) : 0 ≤ i ∧ xs[i.toNat]? = some v := by
 unfold idx at h
 split at h
 ·rename_i h0; exact ⟨h0,h⟩
 ·cases h
theorem zD0 {α : Type} (xs : List α) (row : α → List CV) : (xs.map row).length = xs.length := List.length_map ..
theorem zFc {α : Type} (xs : List α) (row : α → List CV) : (CV.frzEs (xs.map row)).length = xs.length := by rw [CV.frzEs_length,List.length_map]
theorem zGw {α : Type} {b : Bool} {x : Option α} {y : α} (h : (bif b then x else none) = some y) : b = true ∧ x = some y := by
 cases b with
 | false => cases h
 | true => exact ⟨rfl,h⟩
theorem zJ3 {α : Type} {row : α → List CV} {z : α} {zero : List CV} (k : Nat) (h : row z = zero) : List.replicate k zero = (List.replicate k z).map row := by rw [List.map_replicate,h]
theorem zJp {α : Type} (xs ys : List α) (row : α → List CV) : xs.map row ++ ys.map row = (xs ++ ys).map row := (List.map_append ..).symm
theorem zFG {α : Type} {L : List α} {row : α → List CV} {o j sz : Nat} {v new : α} {f : List CV → List CV} {cs : List CV} (hc : cs[o]? = some (.sl true sz (L.map row))) (h : L[j]? = some v) (hf : f (row v) = row new) :
  ZR f cs [(o,j)] = cs.set o (.sl true sz ((L.set j new).map row)) := by
 have hj : (L.map row)[j]? = some (row v) := by rw [List.getElem?_map,h]; rfl
 simp only [ZR,hc,hj,hf,List.map_set]
theorem Yh {α : Type} {L : List α} {row : α → List CV} {o j sz : Nat} {v : α} {cs : List CV} (hc : cs[o]? = some (.sl true sz (L.map row))) (h : L[j]? = some v) : qf cs [(o,j)] = some (row v) := by
 have hj : (L.map row)[j]? = some (row v) := by rw [List.getElem?_map,h]; rfl
 simp only [qf,hc,hj]
theorem zK {α : Type} {L : List α} {row : α → List CV} {o j sz : Nat} {v : α} {cs : List CV} (hc : cs[o]? = some (.sl true sz (L.map row))) (h : L[j]? = some v) : qf [.sl true cs.length [cs]] [(0,0),(o,j)] = some (row v) := by
 have := Yh hc h
 simp only [qf,List.getElem?_cons_zero] at this ⊢
 exact this
theorem zI {v : Value} : (CV.lit v).mine := by simp only [CV.mine]
theorem JC {sz : Nat} {es : List (List CV)} (h : CV.mineEs es) : (CV.sl true sz es).mine := by simp only [CV.mine]; exact ⟨trivial,h⟩
theorem z5 : CV.mineRow [] := by simp only [CV.mineRow]
theorem zE {c : CV} {cs : List CV} (h1 : c.mine) (h2 : CV.mineRow cs) : CV.mineRow (c :: cs) := by simp only [CV.mineRow]; exact ⟨h1,h2⟩
theorem Q5 {α : Type} {row : α → List CV} (h : ∀ v,CV.mineRow (row v)) : ∀ xs : List α,CV.mineEs (xs.map row)
 | [] => by simp only [List.map_nil,CV.mineEs]
 | x :: xs => by simp only [List.map_cons,CV.mineEs]; exact ⟨h x,Q5 h xs⟩
theorem zF3 (n : Int) : CV.mineRow (intRow n) := zE zI z5
theorem zIp (n : Int) : CV.mineRow (zx n) := zE zI z5
theorem qe : ∀ r ∈ ([] : List Ret),r.mine := fun r h => by cases h
theorem qF {ag : Bool} {cs : List CV} {l : List Ret} (h1 : CV.mineRow cs) (h2 : ∀ r ∈ l,r.mine) : ∀ r ∈ Ret.val ag cs :: l,r.mine := fun r h => by
 rcases List.mem_cons.1 h with e | h
 ·rw [e]; exact h1
 ·exact h2 r h
theorem LAt.appMG {P : Program} {cx : Cx} {T : Nat → Option TI} (hT : TOk P T) {ops : Array Oper} {n : Nat} {st : St} {K : St → Prop} {t ty e : TypeId} {x y : Operand} {d : Nat} {g : Option (Nat × Bool)} (ie : TI) (tk tk2 : Tk) {α : Type} (row : α → List CV) (X Y : List α) (st' : St)
  (hop : opAt ops n = some (.call { callee := .builtin .append,args := #[x,y],argTypes := #[t,t] },some d,ty,g)) (hg : gdT ops st g = true) (hd : zV st d = true) (ht : ZE T t = some e) (he : T e = some ie) (hpos : Nat.ble 1 ie.size = true) (hby : Nat.ble ie.bytes 524288 = true)
  (hx : qr T st t x = some tk) (hag : tk.ag = false) (hcs : tk.cs = [.sl true ie.size (X.map row)]) (hy : qr T tk.st t y = some tk2) (hag2 : tk2.ag = false) (hcs2 : tk2.cs = [.sl true ie.size (Y.map row)]) (hd' : zV tk2.st d = true)
  (hG : decide (X.length + Y.length ≤ 268435456) = true) (hst : tk2.st.put d (.val false [.sl true ie.size ((X ++ Y).map row)]) = st') (hk : LAt P cx ops (n + 1) st' K) : LAt P cx ops n st K := by
 have hG := of_decide_eq_true hG
 have hby := Nat.le_of_ble_eq_true hby
 refine LAt.appM hT ie tk tk2 (X.map row) (Y.map row) ((X ++ Y).map row) true st' hop hg hd ht he hpos hx hag hcs hy hag2 hcs2 hd' (by simp only [List.length_map,maxLen]; omega) ?_ (zJp X Y row) hst hk
 simp only [List.length_map]
 calc (X.length + Y.length) * ie.bytes ≤ 268435456 * 524288 := Nat.mul_le_mul hG hby
  _ ≤ 140737488355328 := by decide
end Go.TL
