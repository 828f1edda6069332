import Derived.Test.YtajadnlejdpceaaGreatTlRow
import Derived.Test.YtajadnlejdpceaaGreatTlRule
set_option linter.unusedVariables false
namespace Go.TL
def intRow (n : Int) : List CV := [.lit (.int .i64 n)]
def zZ (n : Int) : List CV := [.lit (.int .u8 n)]
def boolRow (b : Bool) : List CV := [.lit (.bool b)]
def zh (n : Int) : Prop := (Lit.int .i64 n).wf = true
def zLl (n : Int) : Prop := (Lit.int .u8 n).wf = true
def zQE (b : Bool) : Prop := True
def Enc (α : Type) (ls : List Lf) (row : α → List CV) (wf : α → Prop) : Prop := ∀ cs,QQ ls cs → ∃ v,cs = CV.frzRow (row v) ∧ wf v
def Q5 {α : Type} (wf : α → Prop) (xs : List α) : Prop := xs.length ≤ maxLen ∧ ∀ x ∈ xs,wf x
theorem Enc.list {α : Type} {ls : List Lf} {row : α → List CV} {wf : α → Prop} (h : Enc α ls row wf) : ∀ (es : List (List CV)),(∀ r ∈ es,QQ ls r) → ∃ xs : List α,es = CV.frzEs (xs.map row) ∧ ∀ x ∈ xs,wf x
 | [],_ => ⟨[],rfl,fun x hx => by cases hx⟩
 | r :: es,hr => by
  obtain ⟨v,h1,h2⟩ := h r (hr r (by simp))
  obtain ⟨xs,h3,h4⟩ := Enc.list h es fun r' h' => hr r' (by simp [h'])
  refine ⟨v :: xs,by rw [h1,h3]; rfl,fun x hx => ?_⟩
  rcases List.mem_cons.1 hx with e | hx
  ·rw [e]; exact h2
  ·exact h4 x hx
theorem Enc.sl {α : Type} {ls : List Lf} {row : α → List CV} {wf : α → Prop} (h : Enc α ls row wf) {sz : Nat} {c : CV} (hc : JO (.sl sz ls) c) : ∃ xs : List α,c = .sl false sz (CV.frzEs (xs.map row)) ∧ Q5 wf xs := by
 simp only [JO] at hc
 obtain ⟨es,rfl,h1,h2⟩ := hc
 obtain ⟨xs,rfl,h3⟩ := h.list es h2
 refine ⟨xs,rfl,?_,h3⟩
 rwa [CV.frzEs_length,List.length_map] at h1
theorem zq {k : IntKind} {c : CV} (h : JO (.int k) c) : ∃ n,c = .lit (.int k n) ∧ (Lit.int k n).wf = true := by simpa only [JO] using h
theorem zEU {c : CV} (h : JO .bool c) : ∃ b,c = .lit (.bool b) := by simpa only [JO] using h
theorem zOX {c : CV} (h : JO .str c) : ∃ s : ByteArray,c = .lit (.string s) ∧ s.size ≤ maxLen := by simpa only [JO] using h
theorem zNv : Enc Int [.int .i64] intRow zh := fun cs h => by
 obtain ⟨c,r,rfl,h1,h2⟩ := zO h
 obtain ⟨n,rfl,h3⟩ := zq h1
 obtain rfl := Qp h2
 exact ⟨n,rfl,h3⟩
theorem zMy : Enc Int [.int .u8] zZ zLl := fun cs h => by
 obtain ⟨c,r,rfl,h1,h2⟩ := zO h
 obtain ⟨n,rfl,h3⟩ := zq h1
 obtain rfl := Qp h2
 exact ⟨n,rfl,h3⟩
theorem zQj : Enc Bool [.bool] boolRow zQE := fun cs h => by
 obtain ⟨c,r,rfl,h1,h2⟩ := zO h
 obtain ⟨n,rfl⟩ := zEU h1
 obtain rfl := Qp h2
 exact ⟨n,rfl,trivial⟩
def idx {α : Type} (xs : List α) (i : Int) : Option α := if 0 ≤ i then xs[i.toNat]? else none
theorem Qz {α : Type} {xs : List α} {i : Int} {v : α} {row : α → List CV} (h : idx xs i = some v) : IsE (xs.map row) i (row v) := by
 unfold idx at h
 split at h
 ·rename_i h0
  exact ⟨h0,by rw [List.getElem?_map,h]; rfl⟩
 ·cases h
theorem Qb {α : Type} {xs : List α} {i : Int} {v : α} {row : α → List CV} (h : idx xs i = some v) : IsE (CV.frzEs (xs.map row)) i (CV.frzRow (row v)) := by
 obtain ⟨h1,h2⟩ := Qz (row := row) h
 exact ⟨h1,by rw [CV.frzEs_eq,List.getElem?_map,h2]; rfl⟩
theorem zK {α : Type} {xs : List α} {i : Int} {v : α} (h : idx xs i = some v) : 0 ≤ i ∧ xs[i.toNat]? = some v := by
 unfold idx at h
 split at h
 ·rename_i h0; exact ⟨h0,h⟩
 ·cases h
theorem zM4 {α : Type} (xs : List α) (row : α → List CV) : (xs.map row).length = xs.length := List.length_map ..
theorem zIM {α : Type} (xs : List α) (row : α → List CV) : (CV.frzEs (xs.map row)).length = xs.length := by rw [CV.frzEs_length,List.length_map]
theorem zJg {α : Type} {b : Bool} {x : Option α} {y : α} (h : (bif b then x else none) = some y) : b = true ∧ x = some y := by
 cases b with
 | false => cases h
 | true => exact ⟨rfl,h⟩
theorem zMt {α : Type} (xs ys : List α) (row : α → List CV) : xs.map row ++ ys.map row = (xs ++ ys).map row := (List.map_append ..).symm
theorem zHt {α : Type} {L : List α} {row : α → List CV} {o j sz : Nat} {v new : α} {f : List CV → List CV} {cs : List CV} (hc : cs[o]? = some (.sl true sz (L.map row))) (h : L[j]? = some v) (hf : f (row v) = row new) :
  Zk f cs [(o,j)] = cs.set o (.sl true sz ((L.set j new).map row)) := by
 have hj : (L.map row)[j]? = some (row v) := by rw [List.getElem?_map,h]; rfl
 simp only [Zk,hc,hj,hf,List.map_set]
theorem zLA {α : Type} {L : List α} {row : α → List CV} {o j sz : Nat} {v : α} {cs : List CV} (hc : cs[o]? = some (.sl true sz (L.map row))) (h : L[j]? = some v) : ql cs [(o,j)] = some (row v) := by
 have hj : (L.map row)[j]? = some (row v) := by rw [List.getElem?_map,h]; rfl
 simp only [ql,hc,hj]
theorem zQ {α : Type} {L : List α} {row : α → List CV} {o j sz : Nat} {v : α} {cs : List CV} (hc : cs[o]? = some (.sl true sz (L.map row))) (h : L[j]? = some v) : ql [.sl true cs.length [cs]] [(0,0),(o,j)] = some (row v) := by
 have := zLA hc h
 simp only [ql,List.getElem?_cons_zero] at this ⊢
 exact this
theorem zN {v : Value} : (CV.lit v).mine := by simp only [CV.mine]
theorem Q6 {sz : Nat} {es : List (List CV)} (h : CV.mineEs es) : (CV.sl true sz es).mine := by simp only [CV.mine]; exact ⟨trivial,h⟩
theorem zg : CV.mineRow [] := by simp only [CV.mineRow]
theorem zJ {c : CV} {cs : List CV} (h1 : c.mine) (h2 : CV.mineRow cs) : CV.mineRow (c :: cs) := by simp only [CV.mineRow]; exact ⟨h1,h2⟩
theorem Zv {α : Type} {row : α → List CV} (h : ∀ v,CV.mineRow (row v)) : ∀ xs : List α,CV.mineEs (xs.map row)
 | [] => by simp only [List.map_nil,CV.mineEs]
 | x :: xs => by simp only [List.map_cons,CV.mineEs]; exact ⟨h x,Zv h xs⟩
theorem zIj (n : Int) : CV.mineRow (intRow n) := zJ zN zg
theorem zLk (n : Int) : CV.mineRow (zZ n) := zJ zN zg
theorem zT : ∀ r ∈ ([] : List Ret),r.mine := fun r h => by cases h
theorem zM {ag : Bool} {cs : List CV} {l : List Ret} (h1 : CV.mineRow cs) (h2 : ∀ r ∈ l,r.mine) : ∀ r ∈ Ret.val ag cs :: l,r.mine := fun r h => by
 rcases List.mem_cons.1 h with e | h
 ·rw [e]; exact h1
 ·exact h2 r h
theorem LAt.appMG {P : Program} {cx : Cx} {T : Nat → Option TI} (hT : TOk P T) {ops : Array Oper} {n : Nat} {st : St} {K : St → Prop} {t ty e : TypeId} {x y : Operand} {d : Nat} {g : Option (Nat × Bool)} (ie : TI) (tk tk2 : Tk) {α : Type} (row : α → List CV) (X Y : List α) (st' : St)
  (hop : opAt ops n = some (.call { callee := .builtin .append,args := #[x,y],argTypes := #[t,t] },some d,ty,g)) (hg : gdT ops st g = true) (hd : zm st d = true) (ht : Z7 T t = some e) (he : T e = some ie) (hpos : Nat.ble 1 ie.size = true) (hby : Nat.ble ie.bytes 524288 = true)
  (hx : qw T st t x = some tk) (hag : tk.ag = false) (hcs : tk.cs = [.sl true ie.size (X.map row)]) (hy : qw T tk.st t y = some tk2) (hag2 : tk2.ag = false) (hcs2 : tk2.cs = [.sl true ie.size (Y.map row)]) (hd' : zm tk2.st d = true)
  (hG : decide (X.length + Y.length ≤ 268435456) = true) (hst : tk2.st.put d (.val false [.sl true ie.size ((X ++ Y).map row)]) = st') (hk : LAt P cx ops (n + 1) st' K) : LAt P cx ops n st K := by
 have hG := of_decide_eq_true hG
 have hby := Nat.le_of_ble_eq_true hby
 refine LAt.appM hT ie tk tk2 (X.map row) (Y.map row) ((X ++ Y).map row) true st' hop hg hd ht he hpos hx hag hcs hy hag2 hcs2 hd' (by simp only [List.length_map,maxLen]; omega) ?_ (zMt X Y row) hst hk
 simp only [List.length_map]
 calc (X.length + Y.length) * ie.bytes ≤ 268435456 * 524288 := Nat.mul_le_mul hG hby
  _ ≤ 140737488355328 := by decide
end Go.TL
