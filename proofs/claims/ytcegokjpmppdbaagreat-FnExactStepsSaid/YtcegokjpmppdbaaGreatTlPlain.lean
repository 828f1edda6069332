import Derived.Test.YtcegokjpmppdbaaGreatTlEnc
set_option linter.unusedVariables false
namespace Go.TL
theorem wrap64 {z : Int} (h1 : -9223372036854775808 ≤ z) (h2 : z < 9223372036854775808) : IntKind.wrap .i64 z = z := by
 show (if (true && decide (z % 18446744073709551616 ≥ 9223372036854775808)) = true then z % 18446744073709551616 - 18446744073709551616 else z % 18446744073709551616) = z
 by_cases h : z % 18446744073709551616 ≥ 9223372036854775808
 ·rw [decide_eq_true h]; simp only [Bool.and_self,if_true]; omega
 ·rw [decide_eq_false h]; simp only [Bool.and_false,Bool.false_eq_true,if_false]; omega
theorem zMy {n : Int} (h : z6 n) : -9223372036854775808 ≤ n ∧ n < 9223372036854775808 := by
 simp [z6,Lit.wf,IntKind.min,IntKind.max,IntKind.signed,IntKind.bits] at h
 omega
theorem zK {α : Type} {xs : List α} {k : Nat} (h : k < xs.length) : idx xs (k : Int) = some xs[k] := by
 unfold idx
 rw [if_pos (by omega)]
 simp [h]
theorem zH8 {α : Type} {xs : List α} {i : Int} (h0 : 0 ≤ i) (h : i < xs.length) : ∃ v,idx xs i = some v ∧ v ∈ xs := by
 unfold idx
 rw [if_pos h0]
 have : i.toNat < xs.length := by omega
 exact ⟨xs[i.toNat],by simp [this],List.getElem_mem _⟩
theorem zDD {α β : Type} {L : Nat → List α → Int → List α → Option (List α ⊕ β)}
  (h : ∀ m xs i ys,L (m + 1) xs i ys = bif decide (i < (xs.length : Int)) then (idx xs i).bind fun v => (idx ys i).bind fun _ => L m xs (IntKind.wrap .i64 (i + 1)) (ys.set i.toNat v) else some (.inl ys)) (xs : List α) (hx : xs.length ≤ 1099511627776) :
  ∀ (m k : Nat) (ys : List α),k ≤ xs.length → xs.length < m + k → ys.length = xs.length → ys.take k = xs.take k → L m xs k ys = some (.inl xs)
 | 0,k,ys,h1,h2,_,_ => by omega
 | m + 1,k,ys,h1,h2,h3,h4 => by
  rw [h]
  by_cases hk : k < xs.length
  ·have hk' : decide ((k : Int) < (xs.length : Int)) = true := decide_eq_true (by omega)
   rw [hk',zK hk,zK (by omega : k < ys.length),wrap64 (by omega) (by omega)]
   simp only [cond_true,Option.bind_some]
   have := zDD h xs hx m (k + 1) (ys.set k xs[k]) (by omega) (by omega) (by simp [h3]) (by
    refine List.ext_getElem? fun j => ?_
    have hj := congrArg (fun l => l[j]?) h4
    simp only [List.getElem?_take] at hj ⊢
    by_cases hjk : j = k
    ·subst hjk
     simp [hk,h3]
    ·rw [List.getElem?_set_ne (Ne.symm hjk)]
     by_cases hlt : j < k
     ·rw [if_pos hlt,if_pos hlt] at hj
      rw [if_pos (by omega),if_pos (by omega)]
      exact hj
     ·rw [if_neg (by omega),if_neg (by omega)])
   simpa using this
  ·have hk' : decide ((k : Int) < (xs.length : Int)) = false := decide_eq_false (by omega)
   have he : k = xs.length := by omega
   rw [hk']
   simp only [cond_false]
   rw [he,List.take_length,List.take_of_length_le (by omega)] at h4
   rw [h4]
theorem zCG {α β : Type} {f : α → Option α} {L : Nat → List α → Int → List α → Option (List α ⊕ β)}
  (h : ∀ m xs i ys,L (m + 1) xs i ys = bif decide (i < (xs.length : Int)) then (idx xs i).bind fun v => (f v).bind fun r => (idx ys i).bind fun _ => L m xs (IntKind.wrap .i64 (i + 1)) (ys.set i.toNat r) else some (.inl ys)) (xs : List α) (hx : xs.length ≤ 1099511627776) (hf : ∀ v ∈ xs,f v = some v) :
  ∀ (m k : Nat) (ys : List α),k ≤ xs.length → xs.length < m + k → ys.length = xs.length → ys.take k = xs.take k → L m xs k ys = some (.inl xs)
 | 0,k,ys,h1,h2,_,_ => by omega
 | m + 1,k,ys,h1,h2,h3,h4 => by
  rw [h]
  by_cases hk : k < xs.length
  ·have hk' : decide ((k : Int) < (xs.length : Int)) = true := decide_eq_true (by omega)
   rw [hk',zK hk,zK (by omega : k < ys.length),wrap64 (by omega) (by omega)]
   simp only [cond_true,Option.bind_some,hf _ (List.getElem_mem hk)]
   have := zCG h xs hx hf m (k + 1) (ys.set k xs[k]) (by omega) (by omega) (by simp [h3]) (by
    refine List.ext_getElem? fun j => ?_
    have hj := congrArg (fun l => l[j]?) h4
    simp only [List.getElem?_take] at hj ⊢
    by_cases hjk : j = k
    ·subst hjk
     simp [hk,h3]
    ·rw [List.getElem?_set_ne (Ne.symm hjk)]
     by_cases hlt : j < k
     ·rw [if_pos hlt,if_pos hlt] at hj
      rw [if_pos (by omega),if_pos (by omega)]
      exact hj
     ·rw [if_neg (by omega),if_neg (by omega)])
   simpa using this
  ·have hk' : decide ((k : Int) < (xs.length : Int)) = false := decide_eq_false (by omega)
   have he : k = xs.length := by omega
   rw [hk']
   simp only [cond_false]
   rw [he,List.take_length,List.take_of_length_le (by omega)] at h4
   rw [h4]
theorem zA6 {α : Type} {f : α → α → Option Bool} {L : Nat → List α → List α → Int → Option (Unit ⊕ Bool)}
  (h : ∀ m xs ys i,L (m + 1) xs ys i = bif decide (i < (xs.length : Int)) then (idx xs i).bind fun v => (idx ys i).bind fun u => (f v u).bind fun r => bif !r then some (.inr false) else L m xs ys (IntKind.wrap .i64 (i + 1)) else some (.inl ())) (xs : List α) (hx : xs.length ≤ 1099511627776) (hf : ∀ v ∈ xs,f v v = some true) :
  ∀ (m k : Nat),k ≤ xs.length → xs.length < m + k → L m xs xs k = some (.inl ())
 | 0,k,h1,h2 => by omega
 | m + 1,k,h1,h2 => by
  rw [h]
  by_cases hk : k < xs.length
  ·have hk' : decide ((k : Int) < (xs.length : Int)) = true := decide_eq_true (by omega)
   rw [hk',zK hk,wrap64 (by omega) (by omega)]
   simp only [cond_true,Option.bind_some,hf _ (List.getElem_mem hk),Bool.not_true,cond_false]
   exact zA6 h xs hx hf m (k + 1) (by omega) (by omega)
  ·have hk' : decide ((k : Int) < (xs.length : Int)) = false := decide_eq_false (by omega)
   rw [hk']
   rfl
theorem zJd {α γ : Type} {p : Int → α → Option γ} {L : Nat → List α → Int → Option (Unit ⊕ γ)}
  (h : ∀ m xs i,L (m + 1) xs i = bif decide (i < (xs.length : Int)) then (idx xs i).bind fun v => match p i v with | some r => some (.inr r) | none => L m xs (IntKind.wrap .i64 (i + 1)) else some (.inl ())) (xs : List α) (hx : xs.length ≤ 1099511627776) :
  ∀ (m k : Nat),k ≤ xs.length → xs.length < m + k → (L m xs k = some (.inl ()) ∧ ∀ j (hj : j < xs.length),k ≤ j → p j xs[j] = none) ∨
   ∃ (j : Nat) (hj : j < xs.length) (r : γ),k ≤ j ∧ p j xs[j] = some r ∧ (∀ j' (hj' : j' < j),k ≤ j' → p j' (xs[j']'(by omega)) = none) ∧ L m xs k = some (.inr r)
 | 0,k,h1,h2 => by omega
 | m + 1,k,h1,h2 => by
  rw [h]
  by_cases hk : k < xs.length
  ·have hk' : decide ((k : Int) < (xs.length : Int)) = true := decide_eq_true (by omega)
   rw [hk',zK hk,wrap64 (by omega) (by omega)]
   simp only [cond_true,Option.bind_some]
   cases hp : p k xs[k] with
   | some r =>
    right
    exact ⟨k,hk,r,Nat.le_refl _,hp,fun j' h1 h2 => by omega,rfl⟩
   | none =>
    rcases zJd h xs hx m (k + 1) (by omega) (by omega) with ⟨e1,e2⟩ | ⟨j,hj,r,e1,e2,e3,e4⟩
    ·left
     refine ⟨e1,fun j hj hkj => ?_⟩
     by_cases hjk : j = k
     ·subst hjk; exact hp
     ·exact e2 j hj (by omega)
    ·right
     refine ⟨j,hj,r,by omega,e2,fun j' h1 h2 => ?_,e4⟩
     by_cases hjk : j' = k
     ·subst hjk; exact hp
     ·exact e3 j' h1 (by omega)
  ·left
   have hk' : decide ((k : Int) < (xs.length : Int)) = false := decide_eq_false (by omega)
   rw [hk']
   exact ⟨rfl,fun j hj hkj => by omega⟩
def Tot {α : Type} (o : Option α) : Prop := ∃ a,o = some a
theorem Tot.of {α : Type} {a : α} : Tot (some a) := ⟨a,rfl⟩
theorem Tot.bif {α : Type} {c : Bool} {x y : Option α} (h1 : c = true → Tot x) (h2 : c = false → Tot y) : Tot (bif c then x else y) := by
 cases c with
 | true => exact h1 rfl
 | false => exact h2 rfl
theorem Tot.bind {α β : Type} {x : Option α} {f : α → Option β} (h1 : Tot x) (h2 : ∀ a,x = some a → Tot (f a)) : Tot (x.bind f) := by
 obtain ⟨a,rfl⟩ := h1
 exact h2 a rfl
theorem Tot.step {α β : Type} {xs : List α} {k : Nat} {x y : Option β} (h1 : k < xs.length → Tot x) (h2 : Tot y) : Tot (bif decide ((k : Int) < (xs.length : Int)) then x else y) :=
 Tot.bif (fun h => h1 (by have := of_decide_eq_true h; omega)) fun _ => h2
theorem zLw {α : Type} {xs : List α} {k : Nat} (h : k < xs.length) : Tot (idx xs (k : Int)) := ⟨_,zK h⟩
theorem zS {k : Nat} (h : k ≤ 1099511627776) : IntKind.wrap .i64 ((k : Int) + 1) = ((k + 1 : Nat) : Int) := by rw [wrap64 (by omega) (by omega)]; rfl
theorem zGR (x : BitVec 64) : IntKind.wrap .i64 (x.toNat : Int) = x.toInt := by
 have h := x.isLt
 show (if (true && decide ((x.toNat : Int) % 18446744073709551616 ≥ 9223372036854775808)) = true then (x.toNat : Int) % 18446744073709551616 - 18446744073709551616 else (x.toNat : Int) % 18446744073709551616) = x.toInt
 rw [BitVec.toInt_eq_toNat_cond]
 by_cases hc : (x.toNat : Int) % 18446744073709551616 ≥ 9223372036854775808
 ·rw [decide_eq_true hc]; simp only [Bool.and_self,if_true]; rw [if_neg (by omega)]; omega
 ·rw [decide_eq_false hc]; simp only [Bool.and_false,Bool.false_eq_true,if_false]; rw [if_pos (by omega)]; omega
theorem zBa {n : Int} (h : z6 n) : (BitVec.ofInt 64 n).toInt = n := by
 have := zMy h
 rw [BitVec.toInt_ofInt]
 exact Int.bmod_eq_of_le (by omega) (by omega)
theorem zHD {n : Int} (h0 : 0 ≤ n) (h1 : n < 9223372036854775808) : ((BitVec.ofInt 64 n).toNat : Int) = n := by
 rw [BitVec.toNat_ofInt]
 omega
theorem zKJ (b m : BitVec 64) : b &&& ~~~m = 0#64 ↔ b &&& m = b := by
 constructor
 ·intro h
  refine BitVec.eq_of_getLsbD_eq fun i hi => ?_
  have := congrArg (fun x => x.getLsbD i) h
  simp [hi] at this ⊢
  exact this
 ·intro h
  refine BitVec.eq_of_getLsbD_eq fun i hi => ?_
  have := congrArg (fun x => x.getLsbD i) h
  simp [hi] at this ⊢
  exact this
theorem zNs {B M : Int} (hB : z6 B) (h0 : 0 ≤ M) (h1 : M < 9223372036854775808) (h : IntKind.wrap .i64 (BitVec.ofInt (IntKind.bits .i64) B &&& BitVec.ofInt (IntKind.bits .i64) M).toNat = B) : 0 ≤ B ∧ B ≤ M := by
 have h : IntKind.wrap .i64 ((BitVec.ofInt 64 B &&& BitVec.ofInt 64 M).toNat : Int) = B := h
 rw [zGR] at h
 have h : BitVec.ofInt 64 B &&& BitVec.ofInt 64 M = BitVec.ofInt 64 B := BitVec.toInt_inj.1 (by rw [h,zBa hB])
 have hle : (BitVec.ofInt 64 B).toNat ≤ (BitVec.ofInt 64 M).toNat := by
  rw [← h,BitVec.toNat_and]
  exact Nat.and_le_right
 have hM := zHD h0 h1
 have hBi := zBa hB
 rw [BitVec.toInt_eq_toNat_cond] at hBi
 rw [if_pos (by omega)] at hBi
 exact ⟨by omega,by omega⟩
theorem zNr {B M : Int} (hB : z6 B) (h0 : 0 ≤ M) (h1 : M < 9223372036854775808) :
  (IntKind.wrap .i64 (BitVec.ofInt (IntKind.bits .i64) B &&& ~~~BitVec.ofInt (IntKind.bits .i64) M).toNat = 0 ↔ 0 ≤ B ∧ B ≤ M ∧ IntKind.wrap .i64 (BitVec.ofInt (IntKind.bits .i64) B &&& BitVec.ofInt (IntKind.bits .i64) M).toNat = B) := by
 show IntKind.wrap .i64 ((BitVec.ofInt 64 B &&& ~~~BitVec.ofInt 64 M).toNat : Int) = 0 ↔ 0 ≤ B ∧ B ≤ M ∧ IntKind.wrap .i64 ((BitVec.ofInt 64 B &&& BitVec.ofInt 64 M).toNat : Int) = B
 rw [zGR,zGR]
 have e1 : ((BitVec.ofInt 64 B &&& ~~~BitVec.ofInt 64 M).toInt = 0) ↔ BitVec.ofInt 64 B &&& ~~~BitVec.ofInt 64 M = 0#64 := by
  constructor
  ·intro h; exact BitVec.toInt_inj.1 (by rw [h]; rfl)
  ·intro h; rw [h]; rfl
 have e2 : ((BitVec.ofInt 64 B &&& BitVec.ofInt 64 M).toInt = B) ↔ BitVec.ofInt 64 B &&& BitVec.ofInt 64 M = BitVec.ofInt 64 B := by
  constructor
  ·intro h; exact BitVec.toInt_inj.1 (by rw [h,zBa hB])
  ·intro h; rw [h,zBa hB]
 rw [e1,e2,zKJ]
 refine ⟨fun h => ?_,fun h => h.2.2⟩
 have hle : (BitVec.ofInt 64 B).toNat ≤ (BitVec.ofInt 64 M).toNat := by
  rw [← h,BitVec.toNat_and]
  exact Nat.and_le_right
 have hM := zHD h0 h1
 have hBi := zBa hB
 rw [BitVec.toInt_eq_toNat_cond] at hBi
 rw [if_pos (by omega)] at hBi
 exact ⟨by omega,by omega,h⟩
theorem Qf {α : Type} {xs : List α} {k : Nat} {v : α} (h : xs[k]? = some v) : idx xs (k : Int) = some v := by
 unfold idx
 rw [if_pos (by omega)]
 simpa using h
theorem zLv {α : Type} {xs : List α} {k : Nat} {v : α} (h : k < xs.length) : idx (xs.set ((k : Int)).toNat v) (k : Int) = some v := by
 refine Qf ?_
 simp [h]
theorem zCj {α : Type} {xs : List α} {k : Nat} {v : α} (h : k < xs.length) : idx (xs.set k v) (k : Int) = some v := Qf (by simp [h])
theorem zo {k n : Nat} (h : k < n) : decide ((k : Int) < (n : Int)) = true := decide_eq_true (by omega)
theorem zZ {n : Nat} : decide ((n : Int) < (n : Int)) = false := decide_eq_false (by omega)
def q5 {α : Type} (f : α → Int → α) (c : Nat) : List α → Int → List α
 | [],_ => []
 | v :: xs,b => f v b :: q5 f c xs (b + c)
theorem zF9 {α : Type} {f : α → Int → α} {c : Nat} : ∀ (xs : List α) (b : Int),(q5 f c xs b).length = xs.length
 | [],_ => rfl
 | v :: xs,b => by simp only [q5,List.length_cons,zF9 xs]
theorem zEx {α : Type} (pre : List α) (v u : α) (post : List α) : (pre ++ v :: post).set pre.length u = (pre ++ [u]) ++ post := by simp
theorem Jl {α β : Type} {L : Nat → Int → List α → Int → Option ((List α × Int) ⊕ β)} {f : α → Int → α} {c : Nat}
  (h : ∀ (m k : Nat) (ys : List α) (b : Int) (v : α),k < ys.length → ys.length ≤ 268435456 → ys[k]? = some v → 0 ≤ b → b ≤ 1099511627776 → L (m + 1) k ys b = L m ((k + 1 : Nat) : Int) (ys.set k (f v b)) (b + c))
  (hend : ∀ m (ys : List α) b,L (m + 1) (ys.length : Int) ys b = some (.inl (ys,b))) : ∀ (post : List α) (m : Nat) (pre : List α) (b : Int),(pre ++ post).length ≤ 268435456 → 0 ≤ b → b + c * post.length ≤ 1099511627776 → post.length < m →
   L m (pre.length : Int) (pre ++ post) b = some (.inl (pre ++ q5 f c post b,b + c * post.length))
 | [],m,pre,b,h1,h2,h3,h4 => by
  obtain ⟨m,rfl⟩ : ∃ m',m = m' + 1 := ⟨m - 1,by have : 0 < m := h4; omega⟩
  have := hend m pre b
  simp only [List.append_nil,q5,List.length_nil]
  rw [this]
  simp
 | v :: post,m,pre,b,h1,h2,h3,h4 => by
  obtain ⟨m,rfl⟩ : ∃ m',m = m' + 1 := ⟨m - 1,by simp only [List.length_cons] at h4; omega⟩
  have hcast : (c : Int) * ((v :: post).length : Int) = c * post.length + c := by
   rw [List.length_cons,show ((post.length + 1 : Nat) : Int) = post.length + 1 from by omega,Int.mul_add,Int.mul_one]
  rw [hcast] at h3 ⊢
  have hb : b ≤ 1099511627776 := by
   have : (0 : Int) ≤ (c : Int) * (post.length : Int) := Int.mul_nonneg (by omega) (by omega)
   omega
  rw [h m pre.length (pre ++ v :: post) b v (by simp) h1 (by simp) h2 hb,zEx]
  have ih := Jl h hend post m (pre ++ [f v b]) (b + c) (by simpa using h1) (by omega) (by omega) (by simp only [List.length_cons] at h4; omega)
  rw [List.length_append,List.length_singleton] at ih
  rw [ih]
  simp only [q5,List.append_assoc,List.singleton_append]
  congr 3
  omega
theorem zAj {α β : Type} {L : Nat → List α → Int → Int → Option (Int ⊕ β)} {f : α → Int → α} {c : Nat}
  (h : ∀ (m k : Nat) (ys : List α) (b : Int) (v : α),k < ys.length → ys.length ≤ 268435456 → ys[k]? = some (f v b) → 0 ≤ b → b ≤ 1099511627776 → L (m + 1) ys k b = L m ys ((k + 1 : Nat) : Int) (b + c))
  (hend : ∀ m (ys : List α) b,L (m + 1) ys (ys.length : Int) b = some (.inl b)) : ∀ (post : List α) (m : Nat) (pre : List α) (b : Int),(pre ++ post).length ≤ 268435456 → 0 ≤ b → b + c * post.length ≤ 1099511627776 → post.length < m →
   L m (pre ++ q5 f c post b) (pre.length : Int) b = some (.inl (b + c * post.length))
 | [],m,pre,b,h1,h2,h3,h4 => by
  obtain ⟨m,rfl⟩ : ∃ m',m = m' + 1 := ⟨m - 1,by have : 0 < m := h4; omega⟩
  have := hend m pre b
  simp only [List.append_nil,q5,List.length_nil]
  rw [this]
  simp
 | v :: post,m,pre,b,h1,h2,h3,h4 => by
  obtain ⟨m,rfl⟩ : ∃ m',m = m' + 1 := ⟨m - 1,by simp only [List.length_cons] at h4; omega⟩
  have hcast : (c : Int) * ((v :: post).length : Int) = c * post.length + c := by
   rw [List.length_cons,show ((post.length + 1 : Nat) : Int) = post.length + 1 from by omega,Int.mul_add,Int.mul_one]
  rw [hcast] at h3 ⊢
  have hb : b ≤ 1099511627776 := by
   have : (0 : Int) ≤ (c : Int) * (post.length : Int) := Int.mul_nonneg (by omega) (by omega)
   omega
  have hlen : (pre ++ q5 f c (v :: post) b).length ≤ 268435456 := by
   rw [List.length_append,zF9]; simpa using h1
  rw [h m pre.length (pre ++ q5 f c (v :: post) b) b v (by simp [q5]) hlen (by simp [q5]) h2 hb]
  have ih := zAj h hend post m (pre ++ [f v b]) (b + c) (by simpa using h1) (by omega) (by omega) (by simp only [List.length_cons] at h4; omega)
  rw [List.length_append,List.length_singleton] at ih
  simp only [q5]
  rw [List.append_assoc,List.singleton_append] at ih
  rw [ih]
  congr 2
  omega
def Lft (b : Int) (s : Nat) (r : Int) : Prop := r < 0 ∨ (0 ≤ r ∧ r + s = b)
theorem zCD {α : Type} {b : Int} {xs : List α} (h0 : 0 ≤ b) (h1 : b ≤ 1048576) (hl : xs.length ≤ maxLen) : ∃ r,(bif (decide ((IntKind.wrap .i64 (b - (xs.length : Int))) < 0)) then (some (-1)) else (some (IntKind.wrap .i64 (b - (xs.length : Int))))) = some r ∧ Lft b xs.length r := by
 have hm : maxLen = 9223372036854775807 := by decide
 rw [wrap64 (by omega) (by omega)]
 by_cases h : b - (xs.length : Int) < 0
 ·rw [decide_eq_true h]; exact ⟨-1,rfl,.inl (by decide)⟩
 ·rw [decide_eq_false h]; exact ⟨_,rfl,.inr ⟨by omega,by omega⟩⟩
theorem Lft.neg' {b r : Int} {s : Nat} (h : Lft b s r) : (decide (r < 0) = true ∧ r < 0) ∨ (decide (r < 0) = false ∧ 0 ≤ r ∧ r + s = b) := by
 rcases h with h | h
 ·exact .inl ⟨decide_eq_true h,h⟩
 ·exact .inr ⟨decide_eq_false (by omega),h⟩
def qn {α : Type} (sz : α → Nat) : List α → Nat
 | [] => 0
 | v :: xs => sz v + qn sz xs
theorem zA3 {α : Type} {sz : α → Nat} : ∀ {xs : List α} {v : α},v ∈ xs → sz v ≤ qn sz xs
 | x :: xs,v,h => by
  rcases List.mem_cons.1 h with e | h
  ·subst e; simp only [qn]; omega
  ·have := zA3 (sz := sz) h; simp only [qn]; omega
theorem zL5 {α : Type} {g : α → Int → Option Int} {sz : α → Nat} {L : Nat → List α → Int → Int → Option (Int ⊕ Int)}
  (h : ∀ m xs i b,L (m + 1) xs i b = bif decide (i < (xs.length : Int)) then (idx xs i).bind fun v => (g v b).bind fun r => bif decide (r < 0) then some (.inr (-1)) else L m xs (IntKind.wrap .i64 (i + 1)) r else some (.inl b)) (xs : List α) (hx : xs.length ≤ 1099511627776)
  (hg : ∀ v ∈ xs,∀ b,0 ≤ b → b ≤ 1048576 → ∃ r,g v b = some r ∧ Lft b (sz v) r) : ∀ (m k : Nat) (b : Int),k ≤ xs.length → xs.length < m + k → 0 ≤ b → b ≤ 1048576 → ∃ o,L m xs k b = some o ∧ (o = .inr (-1) ∨ ∃ r,o = .inl r ∧ 0 ≤ r ∧ r + qn sz (xs.drop k) = b)
 | 0,k,b,h1,h2,_,_ => by omega
 | m + 1,k,b,h1,h2,h3,h4 => by
  rw [h]
  by_cases hk : k < xs.length
  ·have hk' : decide ((k : Int) < (xs.length : Int)) = true := decide_eq_true (by omega)
   obtain ⟨r,e1,e2⟩ := hg xs[k] (List.getElem_mem hk) b h3 h4
   rw [hk',zK hk,wrap64 (by omega) (by omega)]
   simp only [cond_true,Option.bind_some,e1]
   rcases e2.neg' with ⟨c1,_⟩ | ⟨c1,c2,c3⟩
   ·rw [c1]; exact ⟨_,rfl,.inl rfl⟩
   ·rw [c1]
    obtain ⟨o,f1,f2⟩ := zL5 h xs hx hg m (k + 1) r (by omega) (by omega) c2 (by omega)
    refine ⟨o,f1,?_⟩
    rcases f2 with f2 | ⟨r',f2,f3,f4⟩
    ·exact .inl f2
    ·refine .inr ⟨r',f2,f3,?_⟩
     rw [List.drop_eq_getElem_cons hk]
     simp only [qn]
     omega
  ·have hk' : decide ((k : Int) < (xs.length : Int)) = false := decide_eq_false (by omega)
   rw [hk']
   refine ⟨_,rfl,.inr ⟨b,rfl,h3,?_⟩⟩
   rw [List.drop_eq_nil_of_le (by omega)]
   simp [qn]
theorem Lft.neg {b r : Int} {s : Nat} (h : Lft b s r) : (decide (r < 0) = true ∧ r < 0) ∨ (decide (r < 0) = false ∧ 0 ≤ r ∧ r + s = b) := by
 rcases h with h | h
 ·exact .inl ⟨decide_eq_true h,h⟩
 ·exact .inr ⟨decide_eq_false (by omega),h⟩
end Go.TL
