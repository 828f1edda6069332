import Derived.Test.YtajadnlejdpceaaTlEnc
set_option linter.unusedVariables false
namespace Go.TL
theorem wrap64 {z : Int} (h1 : -9223372036854775808 ≤ z) (h2 : z < 9223372036854775808) : IntKind.wrap .i64 z = z := by
 show (if (true && decide (z % 18446744073709551616 ≥ 9223372036854775808)) = true then z % 18446744073709551616 - 18446744073709551616 else z % 18446744073709551616) = z
 by_cases h : z % 18446744073709551616 ≥ 9223372036854775808
 ·rw [decide_eq_true h]; simp only [Bool.and_self,if_true]; omega
 ·rw [decide_eq_false h]; simp only [Bool.and_false,Bool.false_eq_true,if_false]; omega
theorem qk {α : Type} {xs : List α} {k : Nat} (h : k < xs.length) : idx xs (k : Int) = some xs[k] := by
 unfold idx
 rw [if_pos (by omega)]
 simp [h]
theorem zA9 {α β : Type} {L : Nat → List α → Int → List α → Option (List α ⊕ β)}
  (h : ∀ m xs i ys,L (m + 1) xs i ys = bif decide (i < (xs.length : Int)) then (idx xs i).bind fun v => (idx ys i).bind fun _ => L m xs (IntKind.wrap .i64 (i + 1)) (ys.set i.toNat v) else some (.inl ys)) (xs : List α) (hx : xs.length ≤ 1099511627776) :
  ∀ (m k : Nat) (ys : List α),k ≤ xs.length → xs.length < m + k → ys.length = xs.length → ys.take k = xs.take k → L m xs k ys = some (.inl xs)
 | 0,k,ys,h1,h2,_,_ => by omega
 | m + 1,k,ys,h1,h2,h3,h4 => by
  rw [h]
  by_cases hk : k < xs.length
  ·have hk' : decide ((k : Int) < (xs.length : Int)) = true := decide_eq_true (by omega)
   rw [hk',qk hk,qk (by omega : k < ys.length),wrap64 (by omega) (by omega)]
   simp only [cond_true,Option.bind_some]
   have := zA9 h xs hx m (k + 1) (ys.set k xs[k]) (by omega) (by omega) (by simp [h3]) (by
    refine List.ext_getElem? fun j => ?_
    have hj := congrArg (fun l => l[j]?) h4
    simp only [List.getElem?_take] at hj ⊢
    by_cases hjk : j = k
    ·subst hjk
     simp [hk,h3]
    ·rw [List.getElem?_set_ne (Ne.symm hjk)]
     by_cases hlt : j < k
     ·rw [if_pos hlt,if_pos hlt] at hj
      rw [if_pos (by omega),if_pos (by omega)]
      exact hj
     ·rw [if_neg (by omega),if_neg (by omega)])
   simpa using this
  ·have hk' : decide ((k : Int) < (xs.length : Int)) = false := decide_eq_false (by omega)
   have he : k = xs.length := by omega
   rw [hk']
   simp only [cond_false]
   rw [he,List.take_length,List.take_of_length_le (by omega)] at h4
   rw [h4]
theorem zAg {α β : Type} {f : α → Option α} {L : Nat → List α → Int → List α → Option (List α ⊕ β)}
  (h : ∀ m xs i ys,L (m + 1) xs i ys = bif decide (i < (xs.length : Int)) then (idx xs i).bind fun v => (f v).bind fun r => (idx ys i).bind fun _ => L m xs (IntKind.wrap .i64 (i + 1)) (ys.set i.toNat r) else some (.inl ys)) (xs : List α) (hx : xs.length ≤ 1099511627776) (hf : ∀ v ∈ xs,f v = some v) :
  ∀ (m k : Nat) (ys : List α),k ≤ xs.length → xs.length < m + k → ys.length = xs.length → ys.take k = xs.take k → L m xs k ys = some (.inl xs)
 | 0,k,ys,h1,h2,_,_ => by omega
 | m + 1,k,ys,h1,h2,h3,h4 => by
  rw [h]
  by_cases hk : k < xs.length
  ·have hk' : decide ((k : Int) < (xs.length : Int)) = true := decide_eq_true (by omega)
   rw [hk',qk hk,qk (by omega : k < ys.length),wrap64 (by omega) (by omega)]
   simp only [cond_true,Option.bind_some,hf _ (List.getElem_mem hk)]
   have := zAg h xs hx hf m (k + 1) (ys.set k xs[k]) (by omega) (by omega) (by simp [h3]) (by
    refine List.ext_getElem? fun j => ?_
    have hj := congrArg (fun l => l[j]?) h4
    simp only [List.getElem?_take] at hj ⊢
    by_cases hjk : j = k
    ·subst hjk
     simp [hk,h3]
    ·rw [List.getElem?_set_ne (Ne.symm hjk)]
     by_cases hlt : j < k
     ·rw [if_pos hlt,if_pos hlt] at hj
      rw [if_pos (by omega),if_pos (by omega)]
      exact hj
     ·rw [if_neg (by omega),if_neg (by omega)])
   simpa using this
  ·have hk' : decide ((k : Int) < (xs.length : Int)) = false := decide_eq_false (by omega)
   have he : k = xs.length := by omega
   rw [hk']
   simp only [cond_false]
   rw [he,List.take_length,List.take_of_length_le (by omega)] at h4
   rw [h4]
theorem zA0 {α : Type} {f : α → α → Option Bool} {L : Nat → List α → List α → Int → Option (Unit ⊕ Bool)}
  (h : ∀ m xs ys i,L (m + 1) xs ys i = bif decide (i < (xs.length : Int)) then (idx xs i).bind fun v => (idx ys i).bind fun u => (f v u).bind fun r => bif !r then some (.inr false) else L m xs ys (IntKind.wrap .i64 (i + 1)) else some (.inl ())) (xs : List α) (hx : xs.length ≤ 1099511627776) (hf : ∀ v ∈ xs,f v v = some true) :
  ∀ (m k : Nat),k ≤ xs.length → xs.length < m + k → L m xs xs k = some (.inl ())
 | 0,k,h1,h2 => by omega
 | m + 1,k,h1,h2 => by
  rw [h]
  by_cases hk : k < xs.length
  ·have hk' : decide ((k : Int) < (xs.length : Int)) = true := decide_eq_true (by omega)
   rw [hk',qk hk,wrap64 (by omega) (by omega)]
   simp only [cond_true,Option.bind_some,hf _ (List.getElem_mem hk),Bool.not_true,cond_false]
   exact zA0 h xs hx hf m (k + 1) (by omega) (by omega)
  ·have hk' : decide ((k : Int) < (xs.length : Int)) = false := decide_eq_false (by omega)
   rw [hk']
   rfl
def Q9 (t : Nat → Bool) : Nat → Nat → Bool
 | 0,_ => true
 | d + 1,k => t k && Q9 t d (k + 1)
theorem zAM {L : Nat → Int → Option (Unit ⊕ Bool)} {len : Nat} {t : Nat → Bool} (h : ∀ m k,k < len → L (m + 1) (k : Int) = bif !(t k) then some (.inr false) else L m ((k + 1 : Nat) : Int)) (hend : ∀ m,L (m + 1) (len : Int) = some (.inl ())) :
  ∀ (d m k : Nat),d + k = len → d < m → L m (k : Int) = some (bif Q9 t d k then .inl () else .inr false)
 | 0,m,k,h1,h2 => by
  obtain ⟨m,rfl⟩ : ∃ m',m = m' + 1 := ⟨m - 1,by omega⟩
  have : k = len := by omega
  rw [this,hend]
  rfl
 | d + 1,m,k,h1,h2 => by
  obtain ⟨m,rfl⟩ : ∃ m',m = m' + 1 := ⟨m - 1,by omega⟩
  rw [h m k (by omega),zAM h hend d m (k + 1) (by omega) (by omega)]
  rw [Q9]
  cases t k <;> simp
theorem QK {k : Nat} (h : k ≤ 1099511627776) : IntKind.wrap .i64 ((k : Int) + 1) = ((k + 1 : Nat) : Int) := by rw [wrap64 (by omega) (by omega)]; rfl
theorem Qu {k n : Nat} (h : k < n) : decide ((k : Int) < (n : Int)) = true := decide_eq_true (by omega)
theorem QE {n : Nat} : decide ((n : Int) < (n : Int)) = false := decide_eq_false (by omega)
def Lft (b : Int) (s : Nat) (r : Int) : Prop := r < 0 ∨ (0 ≤ r ∧ r + s = b)
theorem zCe {α : Type} {b : Int} {xs : List α} (h0 : 0 ≤ b) (h1 : b ≤ 1048576) (hl : xs.length ≤ maxLen) : ∃ r,(bif (decide ((IntKind.wrap .i64 (b - (xs.length : Int))) < 0)) then (some (-1)) else (some (IntKind.wrap .i64 (b - (xs.length : Int))))) = some r ∧ Lft b xs.length r := by
 have hm : maxLen = 9223372036854775807 := by decide
 rw [wrap64 (by omega) (by omega)]
 by_cases h : b - (xs.length : Int) < 0
 ·rw [decide_eq_true h]; exact ⟨-1,rfl,.inl (by decide)⟩
 ·rw [decide_eq_false h]; exact ⟨_,rfl,.inr ⟨by omega,by omega⟩⟩
theorem Lft.neg' {b r : Int} {s : Nat} (h : Lft b s r) : (decide (r < 0) = true ∧ r < 0) ∨ (decide (r < 0) = false ∧ 0 ≤ r ∧ r + s = b) := by
 rcases h with h | h
 ·exact .inl ⟨decide_eq_true h,h⟩
 ·exact .inr ⟨decide_eq_false (by omega),h⟩
def QU {α : Type} (sz : α → Nat) : List α → Nat
 | [] => 0
 | v :: xs => sz v + QU sz xs
theorem Yp {α : Type} {sz : α → Nat} : ∀ {xs : List α} {v : α},v ∈ xs → sz v ≤ QU sz xs
 | x :: xs,v,h => by
  rcases List.mem_cons.1 h with e | h
  ·subst e; simp only [QU]; omega
  ·have := Yp (sz := sz) h; simp only [QU]; omega
theorem zCd {α : Type} {g : α → Int → Option Int} {sz : α → Nat} {L : Nat → List α → Int → Int → Option (Int ⊕ Int)}
  (h : ∀ m xs i b,L (m + 1) xs i b = bif decide (i < (xs.length : Int)) then (idx xs i).bind fun v => (g v b).bind fun r => bif decide (r < 0) then some (.inr (-1)) else L m xs (IntKind.wrap .i64 (i + 1)) r else some (.inl b)) (xs : List α) (hx : xs.length ≤ 1099511627776)
  (hg : ∀ v ∈ xs,∀ b,0 ≤ b → b ≤ 1048576 → ∃ r,g v b = some r ∧ Lft b (sz v) r) : ∀ (m k : Nat) (b : Int),k ≤ xs.length → xs.length < m + k → 0 ≤ b → b ≤ 1048576 → ∃ o,L m xs k b = some o ∧ (o = .inr (-1) ∨ ∃ r,o = .inl r ∧ 0 ≤ r ∧ r + QU sz (xs.drop k) = b)
 | 0,k,b,h1,h2,_,_ => by omega
 | m + 1,k,b,h1,h2,h3,h4 => by
  rw [h]
  by_cases hk : k < xs.length
  ·have hk' : decide ((k : Int) < (xs.length : Int)) = true := decide_eq_true (by omega)
   obtain ⟨r,e1,e2⟩ := hg xs[k] (List.getElem_mem hk) b h3 h4
   rw [hk',qk hk,wrap64 (by omega) (by omega)]
   simp only [cond_true,Option.bind_some,e1]
   rcases e2.neg' with ⟨c1,_⟩ | ⟨c1,c2,c3⟩
   ·rw [c1]; exact ⟨_,rfl,.inl rfl⟩
   ·rw [c1]
    obtain ⟨o,f1,f2⟩ := zCd h xs hx hg m (k + 1) r (by omega) (by omega) c2 (by omega)
    refine ⟨o,f1,?_⟩
    rcases f2 with f2 | ⟨r',f2,f3,f4⟩
    ·exact .inl f2
    ·refine .inr ⟨r',f2,f3,?_⟩
     rw [List.drop_eq_getElem_cons hk]
     simp only [QU]
     omega
  ·have hk' : decide ((k : Int) < (xs.length : Int)) = false := decide_eq_false (by omega)
   rw [hk']
   refine ⟨_,rfl,.inr ⟨b,rfl,h3,?_⟩⟩
   rw [List.drop_eq_nil_of_le (by omega)]
   simp [QU]
theorem Lft.neg {b r : Int} {s : Nat} (h : Lft b s r) : (decide (r < 0) = true ∧ r < 0) ∨ (decide (r < 0) = false ∧ 0 ≤ r ∧ r + s = b) := by
 rcases h with h | h
 ·exact .inl ⟨decide_eq_true h,h⟩
 ·exact .inr ⟨decide_eq_false (by omega),h⟩
end Go.TL
