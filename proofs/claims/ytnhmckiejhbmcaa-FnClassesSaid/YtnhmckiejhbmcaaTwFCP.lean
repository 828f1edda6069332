/- What the functions answer, on plain data. -/
import Derived.Test.YtnhmckiejhbmcaaTwFC
import Derived.Test.YtnhmckiejhbmcaaTlPlain
set_option linter.unusedVariables false
set_option linter.unusedSimpArgs false
set_option maxRecDepth 100000
set_option maxHeartbeats 1000000
namespace Go.Proofs.Ytnhmckiejhbmcaa.Tw
open Go Go.TL Go.Proofs
def Vtab.sz (x : Vtab) : Nat := x.Rows.length + x.Pvid.length
theorem impl_RowAt_L2_eq (n : Nat) : impl_RowAt_L2 n = spec_RowAt_L2 n := by
  funext m
  induction m with
  | zero => rfl
  | succ m ih => funext x i y; simp only [impl_RowAt_L2, spec_RowAt_L2, ih]
theorem impl_RowAtF_eq (n : Nat) : impl_RowAtF n = spec_RowAtF n := by
  funext x i; simp only [impl_RowAtF, spec_RowAtF, impl_RowAt_L2_eq]; rfl
theorem spec_RowAtF_ok (n : Nat) (x : Vtab) (id : Int) (h : x.Rows.length ≤ 1048580) (hn : x.Rows.length < n) : ∃ r, spec_RowAtF n x id = some r ∧ (r = -1 ∧ (∀ v ∈ x.Rows, v.Id ≠ id) ∨ ∃ v, 0 ≤ r ∧ idx x.Rows r = some v ∧ v.Id = id) := by
  unfold spec_RowAtF
  have hf := find_loop (L := fun m xs i => spec_RowAt_L2 n m ⟨xs, x.Pvid⟩ id i) (p := fun i v => bif v.Id == id then some i else none) (fun m xs i => by
    show (bif _ then _ else _) = _
    congr 1
    congr 1
    funext v
    cases (v.Id == id) <;> rfl) x.Rows (by omega) n 0 (by omega) (by omega)
  rcases hf with ⟨e1, e2⟩ | ⟨j, hj, r, e1, e2, e3, e4⟩
  · rw [show spec_RowAt_L2 n n x id 0 = _ from e1]
    refine ⟨-1, rfl, .inl ⟨rfl, fun v hv => ?_⟩⟩
    obtain ⟨j, hj, rfl⟩ := List.getElem_of_mem hv
    have := e2 j hj (by omega)
    intro hid
    simp [hid] at this
  · rw [show spec_RowAt_L2 n n x id 0 = _ from e4]
    have hid : (x.Rows[j].Id == id) = true := by
      cases hc : (x.Rows[j].Id == id) with
      | true => rfl
      | false => rw [hc] at e2; cases e2
    rw [hid] at e2
    cases e2
    exact ⟨_, rfl, .inr ⟨_, by omega, idx_nat hj, by simpa using hid⟩⟩
theorem impl_EgressOfF_eq (n : Nat) : impl_EgressOfF n = spec_EgressOfF n := by
  funext x i; simp only [impl_EgressOfF, spec_EgressOfF, impl_RowAtF_eq]
theorem spec_EgressOfF_ok (n : Nat) (x : Vtab) (id : Int) (h : x.Rows.length ≤ 1048580) (hn : x.Rows.length < n) : ∃ r, spec_EgressOfF n x id = some r := by
  obtain ⟨r, e, k⟩ := spec_RowAtF_ok n x id h hn
  unfold spec_EgressOfF
  rw [e]
  rcases k with ⟨rfl, _⟩ | ⟨v, k1, k2, _⟩
  · exact ⟨_, rfl⟩
  · rw [Option.bind_some, decide_eq_false (by omega), k2]
    exact ⟨_, rfl⟩
theorem spec_l1InF_tot (n : Nat) (a b c : Int) : Tot (spec_l1InF n a b c) := Tot.bif (fun _ => .of) (fun _ => .of)
theorem wrapU {k : Nat} (h : k ≤ 1099511627776) : IntKind.wrap .u64 (k : Int) = k := by
  show ((k : Int) % 18446744073709551616) = k
  omega
theorem impl_inF_eq (n : Nat) : impl_inF n = spec_l1InF n := rfl
theorem spec_l1InF_val (n : Nat) (a b c : Int) : spec_l1InF n a b c = some (decide (b ≤ a) && decide (a ≤ c)) := by
  unfold spec_l1InF
  by_cases h : a ≥ b
  · rw [decide_eq_true h]; rfl
  · rw [decide_eq_false h]; rfl
theorem spec_l9CopyF_eq (n : Nat) (x : Vtab) (h : x.sz ≤ 268435456) : spec_l9CopyF n x = some x := by
  have hs : x.Rows.length + x.Pvid.length = x.sz := rfl
  unfold spec_l9CopyF
  simp only [List.length_nil, Nat.zero_add, decide_eq_true (show x.Rows.length ≤ 268435456 by omega), decide_eq_true (show x.Pvid.length ≤ 268435456 by omega), cond_true, List.nil_append]
theorem listWf_sub {α : Type} {wf : α → Prop} {xs ys : List α} (h : listWf wf xs) (hs : ∀ y ∈ ys, y ∈ xs) (hl : ys.length ≤ xs.length) : listWf wf ys := ⟨Nat.le_trans hl h.1, fun y hy => h.2 y (hs y hy)⟩
theorem listWf_set {α : Type} {wf : α → Prop} {xs : List α} {i : Nat} {v : α} (h : listWf wf xs) (hv : wf v) : listWf wf (xs.set i v) := ⟨by rw [List.length_set]; exact h.1, fun y hy => by
  rcases List.mem_or_eq_of_mem_set hy with h1 | h1
  · exact h.2 y h1
  · rw [h1]; exact hv⟩
def Src.ok (c : Src) : Prop := 0 ≤ c.i ∧ c.b.length ≤ 1099511627776
theorem and255 (z : Int) : ∃ v : Int, (IntKind.wrap .i64 (BitVec.ofInt (IntKind.bits .i64) z &&& BitVec.ofInt (IntKind.bits .i64) 255).toNat) = v ∧ 0 ≤ v ∧ v ≤ 255 := by
  have h : (BitVec.ofInt 64 z &&& BitVec.ofInt 64 255).toNat ≤ 255 := by
    rw [BitVec.toNat_and]
    exact Nat.le_trans Nat.and_le_right (by decide)
  refine ⟨((BitVec.ofInt 64 z &&& BitVec.ofInt 64 255).toNat : Int), ?_, by omega, by omega⟩
  exact wrap64 (z := ((BitVec.ofInt 64 z &&& BitVec.ofInt 64 255).toNat : Int)) (by omega) (by omega)
theorem spec_l1ByteF_ok (n : Nat) (c : Src) (h : c.ok) : ∃ v c', spec_l1ByteF n c = some (v, c') ∧ 0 ≤ v ∧ v ≤ 255 ∧ c'.ok := by
  unfold spec_l1ByteF
  rw [show decide ((0 : Int) ≤ 33) = true from rfl, show decide ((0 : Int) ≤ 47) = true from rfl]
  simp only [cond_true]
  by_cases hi : c.i < (c.b.length : Int)
  · obtain ⟨v, hv, _⟩ := idx_of (xs := c.b) h.1 hi
    rw [decide_eq_true hi, hv, wrap64 (z := c.i + 1) (by have := h.1; omega) (by have := h.2; omega)]
    obtain ⟨w, e, e1, e2⟩ := and255 (IntKind.wrap .i64 ((IntKind.wrap .i64 (BitVec.ofInt (IntKind.bits .i64) (IntKind.wrap .i64 (BitVec.ofInt (IntKind.bits .i64) (Int.fdiv (IntKind.wrap .i64 ((IntKind.wrap .i64 (c.h * 6364136223846793005)) + 1442695040888963407)) (2 ^ min ((33 : Int)).toNat (IntKind.bits .i64))) ^^^ BitVec.ofInt (IntKind.bits .i64) (Int.fdiv (IntKind.wrap .i64 ((IntKind.wrap .i64 (c.h * 6364136223846793005)) + 1442695040888963407)) (2 ^ min ((47 : Int)).toNat (IntKind.bits .i64)))).toNat) &&& BitVec.ofInt (IntKind.bits .i64) 255).toNat) + (IntKind.wrap .i64 v)))
    simp only [cond_true, Option.bind_some]
    exact ⟨_, _, rfl, by rw [e]; exact e1, by rw [e]; exact e2, by have := h.1; show 0 ≤ c.i + 1; omega, h.2⟩
  · rw [decide_eq_false hi]
    obtain ⟨w, e, e1, e2⟩ := and255 (IntKind.wrap .i64 (BitVec.ofInt (IntKind.bits .i64) (Int.fdiv (IntKind.wrap .i64 ((IntKind.wrap .i64 (c.h * 6364136223846793005)) + 1442695040888963407)) (2 ^ min ((33 : Int)).toNat (IntKind.bits .i64))) ^^^ BitVec.ofInt (IntKind.bits .i64) (Int.fdiv (IntKind.wrap .i64 ((IntKind.wrap .i64 (c.h * 6364136223846793005)) + 1442695040888963407)) (2 ^ min ((47 : Int)).toNat (IntKind.bits .i64)))).toNat)
    simp only [cond_false]
    exact ⟨_, _, rfl, by rw [e]; exact e1, by rw [e]; exact e2, h.1, h.2⟩
theorem tmod_in {v k : Int} (h0 : 0 ≤ v) (hk : 0 < k) : 0 ≤ Int.tmod v k ∧ Int.tmod v k < k := by
  rw [Int.tmod_eq_emod_of_nonneg h0]
  exact ⟨Int.emod_nonneg _ (by omega), Int.emod_lt_of_pos _ hk⟩
theorem spec_l1BelowF_ok (n : Nat) (c : Src) (k : Int) (h : c.ok) : ∃ v c', spec_l1BelowF n c k = some (v, c') ∧ 0 ≤ v ∧ (0 < k → v < k) ∧ c'.ok := by
  unfold spec_l1BelowF
  by_cases h1 : k ≤ 0
  · rw [decide_eq_true h1]
    exact ⟨0, c, rfl, by omega, fun h => by omega, h⟩
  · rw [decide_eq_false h1]
    have hne : decide ((k : Int) ≠ 0) = true := decide_eq_true (by omega)
    by_cases h2 : k ≤ 256
    · rw [decide_eq_true h2]
      obtain ⟨v, c', e, e1, e2, e3⟩ := spec_l1ByteF_ok n c h
      simp only [cond_true, cond_false, e, Option.bind_some, hne]
      obtain ⟨t1, t2⟩ := tmod_in e1 (show 0 < k by omega)
      exact ⟨_, _, rfl, t1, fun _ => t2, e3⟩
    · rw [decide_eq_false h2]
      obtain ⟨v1, c1, e, e1, e2, e3⟩ := spec_l1ByteF_ok n c h
      obtain ⟨v2, c2, f, f1, f2, f3⟩ := spec_l1ByteF_ok n c1 e3
      obtain ⟨v3, c3, g, g1, g2, g3⟩ := spec_l1ByteF_ok n c2 f3
      simp only [cond_false, e, f, g, Option.bind_some, hne, cond_true]
      simp (disch := omega) only [wrap64]
      obtain ⟨t1, t2⟩ := tmod_in (show 0 ≤ v1 * 65536 + v2 * 256 + v3 by omega) (show 0 < k by omega)
      exact ⟨_, _, rfl, t1, fun _ => t2, g3⟩
theorem spec_l1IntF_ok (n : Nat) (c : Src) (xs : List Int) (h : c.ok) (hx : 0 < xs.length) : ∃ v c', spec_l1IntF n c xs = some (v, c') ∧ v ∈ xs ∧ c'.ok := by
  obtain ⟨v, c', e, e1, e2, e3⟩ := spec_l1BelowF_ok n c (xs.length : Int) h
  obtain ⟨u, hu, hm⟩ := idx_of (xs := xs) e1 (e2 (by omega))
  unfold spec_l1IntF
  simp only [e, hu, Option.bind_some]
  exact ⟨_, _, rfl, hm, e3⟩
theorem spec_l1New_L2_tot (n : Nat) (x0 : List Int) (h : x0.length ≤ 1048580) : ∀ (m k : Nat) (y : Int), k ≤ x0.length → x0.length < m + k → ∃ v, spec_l1New_L2 n m x0 k y = some (.inl v)
  | 0, k, y, h1, h2 => by omega
  | m + 1, k, y, h1, h2 => by
    rw [spec_l1New_L2]
    by_cases hk : k < x0.length
    · rw [lt_true hk, idx_nat hk, wrap_nat (by omega)]
      by_cases h4 : (k : Int) < 4000
      · rw [decide_eq_true h4]
        simp only [cond_true, Option.bind_some]
        exact spec_l1New_L2_tot n x0 h m (k + 1) _ (by omega) (by omega)
      · rw [decide_eq_false h4]
        exact ⟨_, rfl⟩
    · have he : k = x0.length := by omega
      rw [he, lt_false]
      exact ⟨_, rfl⟩
theorem spec_l1NewF_ok (n : Nat) (x0 : List Int) (h : x0.length ≤ 1048580) (hn : x0.length < n) : ∃ c, spec_l1NewF n x0 = some c ∧ c.ok := by
  obtain ⟨v, e⟩ := spec_l1New_L2_tot n x0 h n 0 (IntKind.wrap .i64 (762762 + (x0.length : Int))) (by omega) (by omega)
  unfold spec_l1NewF
  rw [show spec_l1New_L2 n n x0 0 (IntKind.wrap .i64 (762762 + (x0.length : Int))) = _ from e]
  exact ⟨_, rfl, by show (0 : Int) ≤ 0; omega, by show x0.length ≤ _; omega⟩
/-- The rows are in order. -/
def sortedFrom (xs : List Vrow) (k : Nat) : Prop := ∀ j (hj : j + 1 < xs.length), k ≤ j + 1 → xs[j].Id < xs[j + 1].Id
theorem spec_VtabOk_L4_sorted (n : Nat) (x0 : Vtab) (x1 : Int) (h : x0.Rows.length ≤ 1048580) : ∀ (m k : Nat) (o : Unit ⊕ Bool), k ≤ x0.Rows.length → spec_VtabOk_L4 n m x0 x1 k = some o → o = .inr false ∨ sortedFrom x0.Rows k
  | 0, k, o, h1, h2 => by cases h2
  | m + 1, k, o, h1, h2 => by
    rw [spec_VtabOk_L4] at h2
    by_cases hk : k < x0.Rows.length
    · rw [lt_true hk, idx_nat hk, wrap_nat (by omega)] at h2
      simp only [cond_true, Option.bind_some, spec_l1InF_val] at h2
      have rec' : ∀ o, spec_VtabOk_L4 n m x0 x1 ((k + 1 : Nat) : Int) = some o → (k = 0 ∨ ∃ hk0 : 0 < k, (x0.Rows[k - 1]'(by omega)).Id < x0.Rows[k].Id) → o = .inr false ∨ sortedFrom x0.Rows k := fun o ho hs => by
        rcases spec_VtabOk_L4_sorted n x0 x1 h m (k + 1) o (by omega) ho with e | e
        · exact .inl e
        · right
          intro j hj hkj
          by_cases hjk : k = j + 1
          · subst hjk
            rcases hs with hs | ⟨_, hs⟩
            · omega
            · simpa using hs
          · exact e j hj (by omega)
      revert h2
      cases (decide (1 ≤ x0.Rows[k].Id) && decide (x0.Rows[k].Id ≤ 99)) with
      | false => intro h2; left; exact (Option.some.inj h2).symm
      | true =>
        simp only [Bool.not_true, cond_false]
        cases (decide (0 ≤ x0.Rows[k].Members) && decide (x0.Rows[k].Members ≤ _)) with
        | false => intro h2; left; exact (Option.some.inj h2).symm
        | true =>
          simp only [Bool.not_true, cond_false]
          cases (decide (0 ≤ x0.Rows[k].Bare) && decide (x0.Rows[k].Bare ≤ _)) with
          | false => intro h2; left; exact (Option.some.inj h2).symm
          | true =>
            simp only [Bool.not_true, cond_false]
            cases ((IntKind.wrap .i64 (BitVec.ofInt (IntKind.bits .i64) x0.Rows[k].Bare &&& BitVec.ofInt (IntKind.bits .i64) x0.Rows[k].Members).toNat) != x0.Rows[k].Bare) with
            | true => intro h2; left; exact (Option.some.inj h2).symm
            | false =>
              simp only [cond_false]
              by_cases hk0 : 0 < k
              · have hw2 : IntKind.wrap .i64 ((k : Int) - 1) = ((k - 1 : Nat) : Int) := by rw [wrap64 (by omega) (by omega)]; omega
                rw [decide_eq_true (show (k : Int) > 0 by omega), hw2, idx_nat (show k - 1 < x0.Rows.length by omega)]
                simp only [cond_true, Option.bind_some]
                by_cases hge : (x0.Rows[k - 1]'(by omega)).Id ≥ x0.Rows[k].Id
                · rw [decide_eq_true hge]
                  intro h2; left; exact (Option.some.inj h2).symm
                · rw [decide_eq_false hge]
                  intro h2
                  exact rec' o h2 (.inr ⟨hk0, by omega⟩)
              · rw [decide_eq_false (show ¬ (k : Int) > 0 by omega)]
                intro h2
                exact rec' o h2 (.inl (by omega))
    · right
      intro j hj hkj
      omega
theorem spec_VtabOkF_sorted (n : Nat) (x : Vtab) (p : Int) (h : x.Rows.length ≤ 1048580) (hok : spec_VtabOkF n x p = some true) : sortedFrom x.Rows 0 := by
  unfold spec_VtabOkF at hok
  simp only [spec_l1InF_val, Option.bind_some] at hok
  revert hok
  cases (decide (1 ≤ p) && decide (p ≤ 6)) with
  | false => intro h; cases h
  | true =>
    simp only [Bool.not_true, cond_false]
    cases ((x.Pvid.length : Int) != p) with
    | true => intro h; cases h
    | false =>
      simp only [cond_false]
      cases (decide ((x.Rows.length : Int) > 6)) with
      | true => intro h; cases h
      | false =>
        simp only [cond_false]
        cases (decide (0 ≤ (IntKind.wrap .u64 p))) with
        | false => intro h; cases h
        | true =>
          simp only [cond_true]
          intro hok
          obtain ⟨o, ho, hm⟩ := bind_some hok
          rcases spec_VtabOk_L4_sorted n x p h n 0 o (by omega) ho with e | e
          · subst e; cases hm
          · exact e
/-- A row put in its place. -/
def insR (r : Vrow) : List Vrow → List Vrow
  | [] => [r]
  | v :: xs => if v.Id < r.Id then v :: insR r xs else if v.Id = r.Id then r :: xs else r :: v :: xs
theorem sorted_tail {v : Vrow} {xs : List Vrow} (h : sortedFrom (v :: xs) 0) : sortedFrom xs 0 := fun j hj _ => by
  have := h (j + 1) (by simpa using hj) (by omega)
  simpa using this
theorem sorted_gt : ∀ {xs : List Vrow} {v : Vrow}, sortedFrom (v :: xs) 0 → ∀ u ∈ xs, v.Id < u.Id
  | w :: xs, v, h, u, hu => by
    have h0 : v.Id < w.Id := by have := h 0 (by simp) (by omega); simpa using this
    rcases List.mem_cons.1 hu with e | hu
    · rw [e]; exact h0
    · have := sorted_gt (sorted_tail h) u hu
      omega
theorem insR_none (r : Vrow) : ∀ (xs : List Vrow), (∀ v ∈ xs, v.Id < r.Id) → insR r xs = xs ++ [r]
  | [], _ => rfl
  | v :: xs, h => by
    rw [insR, if_pos (h v (by simp)), insR_none r xs fun u hu => h u (by simp [hu])]
    rfl
/-- What is put, wherever it stands. -/
theorem insR_set (r : Vrow) : ∀ (xs : List Vrow) (k : Nat) (hk : k < xs.length), sortedFrom xs 0 → xs[k].Id = r.Id → insR r xs = xs.set k r
  | v :: xs, 0, hk, hs, he => by
    have he : v.Id = r.Id := he
    rw [insR, if_neg (by omega), if_pos he]
    rfl
  | v :: xs, k + 1, hk, hs, he => by
    have hk' : k < xs.length := by simpa using hk
    have he : xs[k].Id = r.Id := he
    have := sorted_gt hs xs[k] (List.getElem_mem hk')
    rw [insR, if_pos (by omega), insR_set r xs k hk' (sorted_tail hs) he]
    rfl
theorem insR_cut (r : Vrow) : ∀ (xs : List Vrow) (k : Nat) (hk : k ≤ xs.length), (∀ j (hj : j < xs.length), j < k → xs[j].Id < r.Id) → (∀ hj : k < xs.length, r.Id < xs[k].Id) → insR r xs = xs.take k ++ r :: xs.drop k
  | [], k, hk, h1, h2 => by
    have : k = 0 := by simpa using hk
    subst this; rfl
  | v :: xs, 0, hk, h1, h2 => by
    have := h2 (by simp)
    have this : r.Id < v.Id := this
    rw [insR, if_neg (by omega), if_neg (by omega)]
    rfl
  | v :: xs, k + 1, hk, h1, h2 => by
    have h0 := h1 0 (by simp) (by omega)
    have h0 : v.Id < r.Id := h0
    rw [insR, if_pos h0, insR_cut r xs k (by simpa using hk) (fun j hj hjk => by have := h1 (j + 1) (by simpa using hj) (by omega); simpa using this) (fun hj => by have := h2 (by simpa using hj); simpa using this)]
    rfl
/-- The spec's loop, from element k on. -/
theorem spec_l9Row_L2_done (n : Nat) (x0 : Vtab) (r : Vrow) (h : x0.Rows.length ≤ 1048580) : ∀ (m k : Nat) (acc : List Vrow), k ≤ x0.Rows.length → x0.Rows.length < m + k → acc.length ≤ 1048590 + k → (∀ j (hj : j < x0.Rows.length), k ≤ j → x0.Rows[j].Id ≠ r.Id) → spec_l9Row_L2 n m x0 r k true acc = some (.inl (true, acc ++ x0.Rows.drop k))
  | 0, k, acc, h1, h2, _, _ => by omega
  | m + 1, k, acc, h1, h2, h3, h4 => by
    rw [spec_l9Row_L2]
    by_cases hk : k < x0.Rows.length
    · have hne : (x0.Rows[k].Id != r.Id) = true := by simpa using h4 k hk (by omega)
      have hlen : decide (acc.length + [x0.Rows[k]].length ≤ 268435456) = true := decide_eq_true (by rw [List.length_singleton]; omega)
      simp only [lt_true hk, cond_true, Bool.not_true, cond_false, spec_l9Row_J3, idx_nat hk, Option.bind_some, hne, hlen, wrap_nat (by omega : k ≤ 1099511627776)]
      rw [spec_l9Row_L2_done n x0 r h m (k + 1) (acc ++ [x0.Rows[k]]) (by omega) (by omega) (by simp; omega) (fun j hj hkj => h4 j hj (by omega))]
      rw [List.drop_eq_getElem_cons hk]
      simp
    · have he : k = x0.Rows.length := by omega
      rw [he, lt_false]
      simp
theorem spec_l9Row_L2_ins (n : Nat) (x0 : Vtab) (r : Vrow) (h : x0.Rows.length ≤ 1048580) (hs : sortedFrom x0.Rows 0) : ∀ (m k : Nat) (acc : List Vrow), k ≤ x0.Rows.length → x0.Rows.length < m + k → acc.length ≤ 1048580 + k → ∃ d ys, spec_l9Row_L2 n m x0 r k false acc = some (.inl (d, ys)) ∧ (bif d then ys else ys ++ [r]) = acc ++ insR r (x0.Rows.drop k) ∧ ys.length + k ≤ acc.length + x0.Rows.length + 1
  | 0, k, acc, h1, h2, _ => by omega
  | m + 1, k, acc, h1, h2, h3 => by
    rw [spec_l9Row_L2]
    by_cases hk : k < x0.Rows.length
    · have hdrop := List.drop_eq_getElem_cons hk
      by_cases hge : x0.Rows[k].Id ≥ r.Id
      · have hlen : decide (acc.length + [r].length ≤ 268435456) = true := decide_eq_true (by rw [List.length_singleton]; omega)
        simp only [lt_true hk, cond_true, Bool.not_false, idx_nat hk, Option.bind_some, decide_eq_true hge, hlen, spec_l9Row_J3, wrap_nat (by omega : k ≤ 1099511627776)]
        have hgt : ∀ j (hj : j < x0.Rows.length), k + 1 ≤ j → x0.Rows[j].Id ≠ r.Id := fun j hj hkj => by
          have : x0.Rows[k].Id < x0.Rows[j].Id := by
            have hs' : sortedFrom (x0.Rows[k] :: x0.Rows.drop (k + 1)) 0 := by
              rw [← hdrop]
              intro i hi _
              have := hs (k + i) (by simp at hi; omega) (by omega)
              simpa [List.getElem_drop, Nat.add_assoc] using this
            refine sorted_gt hs' _ ?_
            have : x0.Rows[j] = (x0.Rows.drop (k + 1))[j - (k + 1)]'(by simp; omega) := by
              rw [List.getElem_drop]; congr 1; omega
            rw [this]
            exact List.getElem_mem _
          omega
        by_cases heq : x0.Rows[k].Id = r.Id
        · have hne : (x0.Rows[k].Id != r.Id) = false := by simpa using heq
          rw [hne]
          simp only [cond_false]
          rw [spec_l9Row_L2_done n x0 r h m (k + 1) (acc ++ [r]) (by omega) (by omega) (by simp; omega) hgt]
          refine ⟨true, _, rfl, ?_, by simp; omega⟩
          rw [hdrop, insR, if_neg (by omega), if_pos heq]
          simp
        · have hne : (x0.Rows[k].Id != r.Id) = true := by simpa using heq
          have hlen2 : decide ((acc ++ [r]).length + [x0.Rows[k]].length ≤ 268435456) = true := decide_eq_true (by simp; omega)
          rw [hne]
          simp only [cond_true, hlen2]
          rw [spec_l9Row_L2_done n x0 r h m (k + 1) ((acc ++ [r]) ++ [x0.Rows[k]]) (by omega) (by omega) (by simp; omega) hgt]
          refine ⟨true, _, rfl, ?_, by simp; omega⟩
          rw [hdrop, insR, if_neg (by omega), if_neg heq]
          simp
      · have hne : (x0.Rows[k].Id != r.Id) = true := by simp; omega
        have hlen : decide (acc.length + [x0.Rows[k]].length ≤ 268435456) = true := decide_eq_true (by rw [List.length_singleton]; omega)
        simp only [lt_true hk, cond_true, Bool.not_false, idx_nat hk, Option.bind_some, decide_eq_false hge, cond_false, hne, hlen, spec_l9Row_J3, wrap_nat (by omega : k ≤ 1099511627776)]
        obtain ⟨d, ys, e1, e2, e3⟩ := spec_l9Row_L2_ins n x0 r h hs m (k + 1) (acc ++ [x0.Rows[k]]) (by omega) (by omega) (by simp; omega)
        refine ⟨d, ys, e1, ?_, ?_⟩
        · rw [e2, hdrop, insR, if_pos (by omega)]
          simp
        · simp at e3; omega
    · have he : k = x0.Rows.length := by omega
      rw [he, lt_false]
      refine ⟨false, acc, rfl, ?_, by omega⟩
      simp [insR]
theorem spec_l9RowF_eq (n : Nat) (x : Vtab) (r : Vrow) (h : x.sz ≤ 1048576) (hn : x.sz < n) (hs : sortedFrom x.Rows 0) : spec_l9RowF n x r = some ⟨insR r x.Rows, x.Pvid⟩ := by
  have hsz : x.Rows.length + x.Pvid.length = x.sz := rfl
  obtain ⟨d, ys, e1, e2, e3⟩ := spec_l9Row_L2_ins n x r (by omega) hs n 0 [] (by omega) (by omega) (by simp)
  unfold spec_l9RowF
  rw [decide_eq_true (show ([] : List Int).length + x.Pvid.length ≤ 268435456 by simp; omega)]
  simp only [cond_true]
  rw [show spec_l9Row_L2 n n x r 0 false ([] : List Vrow) = _ from e1]
  simp only [List.drop_zero, List.nil_append] at e2
  simp only [List.length_nil] at e3
  simp only [Option.bind_some, spec_l9Row_J1, List.nil_append]
  cases d with
  | true =>
    simp only [cond_true] at e2
    rw [e2]; rfl
  | false =>
    simp only [cond_false] at e2
    rw [decide_eq_true (show ys.length + [r].length ≤ 268435456 by simp; omega), e2]; rfl
theorem spec_VtabOk_L4_tot (n : Nat) (x0 : Vtab) (x1 : Int) (h : x0.Rows.length ≤ 1048580) : ∀ (m k : Nat), k ≤ x0.Rows.length → x0.Rows.length < m + k → Tot (spec_VtabOk_L4 n m x0 x1 k)
  | 0, k, h1, h2 => by omega
  | m + 1, k, h1, h2 => by
    rw [spec_VtabOk_L4]
    refine Tot.step (fun hk => ?_) .of
    have ih := spec_VtabOk_L4_tot n x0 x1 h m (k + 1) (by omega) (by omega)
    simp only [idx_nat hk, Option.bind_some, spec_l1InF_val, wrap_nat (by omega : k ≤ 1099511627776)]
    refine Tot.bif (fun _ => .of) fun _ => Tot.bif (fun _ => .of) fun _ => Tot.bif (fun _ => .of) fun _ => Tot.bif (fun _ => .of) fun _ => Tot.bif (fun hp => ?_) fun _ => ih
    have hp := of_decide_eq_true hp
    obtain ⟨v, hv, _⟩ := idx_of (xs := x0.Rows) (i := (k : Int) - 1) (by omega) (by omega)
    rw [wrap64 (by omega) (by omega), hv, Option.bind_some]
    exact Tot.bif (fun _ => .of) fun _ => ih
theorem spec_VtabOk_L3_tot (n : Nat) (x0 : Vtab) (h : x0.Rows.length ≤ 1048580) (hn : x0.Rows.length < n) (hq : x0.Pvid.length ≤ 1048580) : ∀ (m k : Nat), k ≤ x0.Pvid.length → x0.Pvid.length < m + k → Tot (spec_VtabOk_L3 n m x0 k)
  | 0, k, h1, h2 => by omega
  | m + 1, k, h1, h2 => by
    rw [spec_VtabOk_L3]
    refine Tot.step (fun hk => ?_) .of
    have ih := spec_VtabOk_L3_tot n x0 h hn hq m (k + 1) (by omega) (by omega)
    obtain ⟨r, hr, _⟩ := spec_RowAtF_ok n x0 x0.Pvid[k] h hn
    simp only [idx_nat hk, Option.bind_some, hr, wrap_nat (by omega : k ≤ 1099511627776)]
    exact Tot.bif (fun _ => .of) fun _ => ih
theorem spec_VtabOkF_tot (n : Nat) (x0 : Vtab) (p : Nat) (hp : p ≤ 1000000) (h : x0.sz ≤ 1048580) (hn : x0.sz < n) : Tot (spec_VtabOkF n x0 p) := by
  have hs : x0.Rows.length + x0.Pvid.length = x0.sz := rfl
  unfold spec_VtabOkF
  simp only [spec_l1InF_val, Option.bind_some]
  have hu : decide ((0 : Int) ≤ IntKind.wrap .u64 (p : Int)) = true := by rw [show IntKind.wrap .u64 (p : Int) = p from by show ((p : Int) % 18446744073709551616) = p; omega]; exact decide_eq_true (by omega)
  refine Tot.bif (fun _ => .of) fun _ => Tot.bif (fun _ => .of) fun _ => Tot.bif (fun _ => .of) fun _ => ?_
  rw [hu, cond_true]
  refine Tot.bind (spec_VtabOk_L4_tot n x0 p (by omega) n 0 (by omega) (by omega)) fun o _ => ?_
  cases o with
  | inr b => exact Tot.of
  | inl u =>
    show Tot (spec_VtabOk_J1 n x0)
    unfold spec_VtabOk_J1
    refine Tot.bind (spec_VtabOk_L3_tot n x0 (by omega) (by omega) (by omega) n 0 (by omega) (by omega)) fun o _ => ?_
    cases o <;> exact Tot.of
theorem spec_VtabOkF_len (n : Nat) (x : Vtab) (p : Int) (hok : spec_VtabOkF n x p = some true) : x.Rows.length ≤ 6 ∧ (x.Pvid.length : Int) = p := by
  unfold spec_VtabOkF at hok
  simp only [spec_l1InF_val, Option.bind_some] at hok
  revert hok
  cases (decide (1 ≤ p) && decide (p ≤ 6)) with
  | false => intro h; cases h
  | true =>
    simp only [Bool.not_true, cond_false]
    by_cases hp : (x.Pvid.length : Int) = p
    · have : ((x.Pvid.length : Int) != p) = false := by simp [hp]
      rw [this, cond_false]
      by_cases hr : (x.Rows.length : Int) > 6
      · rw [decide_eq_true hr]; intro h; cases h
      · exact fun _ => ⟨by omega, hp⟩
    · have : ((x.Pvid.length : Int) != p) = true := by simp [hp]
      rw [this]; intro h; cases h
/-- a table that is drawn: right, and with few bits -/
def VtG (n p : Nat) (x : Vtab) : Prop := x.wf ∧ x.Pvid.length = p ∧ x.Rows.length ≤ 6 ∧ spec_VtabOkF n x p = some true ∧ ∀ r ∈ x.Rows, 0 ≤ r.Bare ∧ r.Bare ≤ 63
theorem VtG.sz {n p : Nat} {x : Vtab} (h : VtG n p x) : x.sz ≤ 6 + p := by
  have hs : x.Rows.length + x.Pvid.length = x.sz := rfl
  have := h.2.1; have := h.2.2.1; omega
theorem spec_l9OrF_gt (n p : Nat) (hp : p ≤ 1000) (x y : Vtab) (hx : VtG n p x) (wy : y.wf) (hy : y.Pvid.length = p) (hl : y.Rows.length ≤ 1000) (hb : ∀ r ∈ y.Rows, 0 ≤ r.Bare ∧ r.Bare ≤ 63) (hn : 1048577 < n) : ∃ r b, spec_l9OrF n y x = some (r, b) ∧ VtG n p r := by
  have hs : y.Rows.length + y.Pvid.length = y.sz := rfl
  have hxs := hx.sz
  obtain ⟨b, e⟩ := spec_VtabOkF_tot n y p (by omega) (by omega) (by omega)
  unfold spec_l9OrF
  rw [hx.2.1, e, Option.bind_some, spec_l9CopyF_eq n x (by omega)]
  cases b
  · exact ⟨x, false, rfl, hx⟩
  · exact ⟨y, true, rfl, wy, hy, (spec_VtabOkF_len n y p e).1, e, hb⟩
theorem spec_SetPvidF_gt (n p : Nat) (hp : p ≤ 1000) (x : Vtab) (hx : VtG n p x) (i id : Int) (wi : intWf id) (hn : 1048577 < n) : ∃ r b, spec_SetPvidF n x i id = some (r, b) ∧ VtG n p r := by
  have hxs := hx.sz
  have hpl := hx.2.1
  have hw : IntKind.wrap .i64 ((p : Int) - 1) = (p : Int) - 1 := wrap64 (by omega) (by omega)
  unfold spec_SetPvidF
  simp only [hpl, hx.2.2.2.1, Option.bind_some, Bool.not_true, cond_false, spec_l1InF_val, hw, spec_l9CopyF_eq n x (by omega)]
  by_cases hi : 0 ≤ i ∧ i ≤ (p : Int) - 1
  · obtain ⟨v, hv, _⟩ := idx_of (xs := x.Pvid) hi.1 (by omega)
    obtain ⟨r, b, e, g⟩ := spec_l9OrF_gt n p hp x ⟨x.Rows, x.Pvid.set i.toNat id⟩ hx ⟨hx.1.1, listWf_set hx.1.2.1 wi, trivial⟩ (by simp [hpl]) (by have := hx.2.2.1; show x.Rows.length ≤ 1000; omega) hx.2.2.2.2 hn
    rw [decide_eq_true hi.1, decide_eq_true hi.2]
    simp only [Bool.and_self, Bool.not_true, cond_false, hv, Option.bind_some, e]
    exact ⟨r, b, rfl, g⟩
  · have hp' : (decide (0 ≤ i) && decide (i ≤ (p : Int) - 1)) = false := by
      simp only [Bool.and_eq_false_iff, decide_eq_false_iff_not]; omega
    rw [hp']
    exact ⟨x, false, rfl, hx⟩
theorem spec_DropRowF_gt (n p : Nat) (hp : p ≤ 1000) (x : Vtab) (hx : VtG n p x) (id : Int) (hn : 1048577 < n) : ∃ r b, spec_DropRowF n x id = some (r, b) ∧ VtG n p r := by
  have hxs := hx.sz
  have hpl := hx.2.1
  have h6 := hx.2.2.1
  obtain ⟨r, hr, hk⟩ := spec_RowAtF_ok n x id (by omega) (by omega)
  rcases hk with ⟨rfl, _⟩ | ⟨v, h0, hv, _⟩
  · refine ⟨x, false, ?_, hx⟩
    simp only [spec_DropRowF, hr, hpl, hx.2.2.2.1, Option.bind_some, spec_l9CopyF_eq n x (by omega)]
    rfl
  · obtain ⟨g1, g2⟩ := idx_get hv
    have hlt : r.toNat < x.Rows.length := (List.getElem?_eq_some_iff.1 g2).1
    obtain ⟨k, rfl⟩ : ∃ k : Nat, r = k := ⟨r.toNat, by omega⟩
    simp only [Int.toNat_natCast] at hlt
    have hw : IntKind.wrap .i64 ((k : Int) + 1) = ((k + 1 : Nat) : Int) := wrap_nat (by omega)
    have hlist : (([] : List Vrow) ++ ((x.Rows.drop ((0 : Int)).toNat).take (((k : Int)).toNat - ((0 : Int)).toNat))) ++ ((x.Rows.drop ((((k + 1 : Nat) : Int))).toNat).take ((((x.Rows.length : Int) : Int)).toNat - ((((k + 1 : Nat) : Int))).toNat)) = x.Rows.take k ++ x.Rows.drop (k + 1) := by
      simp only [Int.toNat_natCast, List.nil_append, show ((0 : Int)).toNat = 0 from rfl, List.drop_zero, Nat.sub_zero]
      congr 1
      exact List.take_of_length_le (by simp)
    have hmem : ∀ y ∈ x.Rows.take k ++ x.Rows.drop (k + 1), y ∈ x.Rows := fun y hy => by
      rcases List.mem_append.1 hy with h | h
      · exact List.mem_of_mem_take h
      · exact List.mem_of_mem_drop h
    obtain ⟨y, b, e, g⟩ := spec_l9OrF_gt n p hp x ⟨x.Rows.take k ++ x.Rows.drop (k + 1), x.Pvid⟩ hx ⟨listWf_sub hx.1.1 hmem (by simp; omega), hx.1.2⟩ hpl (by show (x.Rows.take k ++ x.Rows.drop (k + 1)).length ≤ 1000; simp; omega) (fun r hr => hx.2.2.2.2 r (hmem r hr)) hn
    have hg1 : (decide ((0 : Int) ≤ 0) && (decide ((0 : Int) ≤ (k : Int)) && decide ((k : Int) ≤ (x.Rows.length : Int)))) = true := by
      rw [decide_eq_true (by omega : (0 : Int) ≤ (k : Int)), decide_eq_true (by omega : (k : Int) ≤ (x.Rows.length : Int))]; rfl
    have hg2 : (decide ((0 : Int) ≤ ((k + 1 : Nat) : Int)) && (decide ((((k + 1 : Nat) : Int) : Int) ≤ (x.Rows.length : Int)) && decide (((x.Rows.length : Int) : Int) ≤ (x.Rows.length : Int)))) = true := by
      rw [decide_eq_true (by omega : (0 : Int) ≤ ((k + 1 : Nat) : Int)), decide_eq_true (by omega : ((k + 1 : Nat) : Int) ≤ (x.Rows.length : Int)), decide_eq_true (Int.le_refl _)]; rfl
    have hg3 : decide (([] : List Vrow).length + ((x.Rows.drop ((0 : Int)).toNat).take (((k : Int)).toNat - ((0 : Int)).toNat)).length ≤ 268435456) = true := decide_eq_true (by simp; omega)
    have hg4 : decide ((([] : List Vrow) ++ ((x.Rows.drop ((0 : Int)).toNat).take (((k : Int)).toNat - ((0 : Int)).toNat))).length + ((x.Rows.drop ((((k + 1 : Nat) : Int))).toNat).take ((((x.Rows.length : Int) : Int)).toNat - ((((k + 1 : Nat) : Int))).toNat)).length ≤ 268435456) = true := decide_eq_true (by simp; omega)
    have hn0 : decide ((k : Int) < 0) = false := decide_eq_false (by omega)
    refine ⟨y, b, ?_, g⟩
    simp only [spec_DropRowF, hr, hpl, hx.2.2.2.1, Option.bind_some, Bool.not_true, spec_l9CopyF_eq n x (by omega), hn0, cond_false, hw, hg1, hg2, hg3, hg4, cond_true, hlist, e]
/-- a row is put: whatever the table, something comes -/
theorem spec_l9Row_L2_any (n : Nat) (x0 : Vtab) (r : Vrow) (h : x0.Rows.length ≤ 1000) : ∀ (m k : Nat) (d : Bool) (acc : List Vrow), k ≤ x0.Rows.length → x0.Rows.length < m + k → acc.length ≤ 2 * k → (∀ v ∈ acc, v = r ∨ v ∈ x0.Rows) → ∃ d' acc', spec_l9Row_L2 n m x0 r k d acc = some (.inl (d', acc')) ∧ acc'.length ≤ 2 * x0.Rows.length ∧ (∀ v ∈ acc', v = r ∨ v ∈ x0.Rows)
  | 0, k, d, acc, h1, h2, _, _ => by omega
  | m + 1, k, d, acc, h1, h2, h3, h4 => by
    rw [spec_l9Row_L2]
    by_cases hk : k < x0.Rows.length
    · have ih := fun d acc h3 h4 => spec_l9Row_L2_any n x0 r h m (k + 1) d acc (by omega) (by omega) h3 h4
      have hmem : x0.Rows[k] ∈ x0.Rows := List.getElem_mem hk
      have hj : ∀ b1 b2 b3 (d : Bool) (acc : List Vrow), acc.length ≤ 2 * k + 1 → (∀ v ∈ acc, v = r ∨ v ∈ x0.Rows) → ∃ d' acc', spec_l9Row_J3 n (fun v => spec_l9Row_L2 n m x0 r v.1 v.2.1 v.2.2) x0 r k b1 b2 b3 d acc = some (.inl (d', acc')) ∧ acc'.length ≤ 2 * x0.Rows.length ∧ (∀ v ∈ acc', v = r ∨ v ∈ x0.Rows) := fun b1 b2 b3 d acc hl ha => by
        have hlen : decide (acc.length + [x0.Rows[k]].length ≤ 268435456) = true := decide_eq_true (by rw [List.length_singleton]; omega)
        simp only [spec_l9Row_J3, idx_nat hk, Option.bind_some, hlen, cond_true, wrap_nat (by omega : k ≤ 1099511627776)]
        cases (x0.Rows[k].Id != r.Id)
        · exact ih d acc (by omega) ha
        · refine ih d _ (by simp; omega) fun v hv => ?_
          rcases List.mem_append.1 hv with a | a
          · exact ha v a
          · rw [List.mem_singleton.1 a]; exact .inr hmem
      have hlen : decide (acc.length + [r].length ≤ 268435456) = true := decide_eq_true (by rw [List.length_singleton]; omega)
      simp only [lt_true hk, cond_true, idx_nat hk, Option.bind_some, hlen]
      cases d
      · simp only [Bool.not_false, cond_true]
        cases (decide (x0.Rows[k].Id ≥ r.Id))
        · simp only [cond_false]; exact hj _ _ _ _ _ (by omega) h4
        · simp only [cond_true]
          refine hj _ _ _ _ _ (by simp; omega) fun v hv => ?_
          rcases List.mem_append.1 hv with a | a
          · exact h4 v a
          · exact .inl (List.mem_singleton.1 a)
      · simp only [Bool.not_true, cond_false]; exact hj _ _ _ _ _ (by omega) h4
    · have he : k = x0.Rows.length := by omega
      subst he
      rw [lt_false, cond_false]
      exact ⟨d, acc, rfl, h3, h4⟩
theorem spec_l9RowF_any (n : Nat) (x : Vtab) (r : Vrow) (h : x.Rows.length ≤ 1000) (hq : x.Pvid.length ≤ 1000) (hn : 1000 < n) : ∃ y, spec_l9RowF n x r = some y ∧ y.Pvid = x.Pvid ∧ y.Rows.length ≤ 2 * x.Rows.length + 1 ∧ (∀ v ∈ y.Rows, v = r ∨ v ∈ x.Rows) := by
  obtain ⟨d, acc, e, h1, h2⟩ := spec_l9Row_L2_any n x r h n 0 false [] (by omega) (by omega) (by simp) (by simp)
  have e : spec_l9Row_L2 n n x r 0 false ([] : List Vrow) = some (.inl (d, acc)) := e
  unfold spec_l9RowF
  rw [decide_eq_true (by simp; omega), cond_true, e, Option.bind_some]
  simp only [spec_l9Row_J1, List.nil_append]
  have hlen : decide (acc.length + [r].length ≤ 268435456) = true := decide_eq_true (by rw [List.length_singleton]; omega)
  rw [hlen]
  cases d
  · refine ⟨_, rfl, rfl, by simp; omega, fun v hv => ?_⟩
    rcases List.mem_append.1 hv with a | a
    · exact h2 v a
    · exact .inl (List.mem_singleton.1 a)
  · exact ⟨_, rfl, rfl, by simp; omega, h2⟩
theorem rows_wf {xs ys : List Vrow} {r : Vrow} (hx : listWf Vrow.wf xs) (wr : r.wf) (hl : ys.length ≤ 4000) (h : ∀ v ∈ ys, v = r ∨ v ∈ xs) : listWf Vrow.wf ys := ⟨Nat.le_trans hl (by decide), fun v hv => by
  rcases h v hv with a | a
  · rw [a]; exact wr
  · exact hx.2 v a⟩
theorem spec_PutRowF_gt (n p : Nat) (hp : p ≤ 1000) (x : Vtab) (hx : VtG n p x) (r : Vrow) (wr : r.wf) (hr : 0 ≤ r.Bare ∧ r.Bare ≤ 63) (hn : 1048577 < n) : ∃ y b, spec_PutRowF n x r = some (y, b) ∧ VtG n p y := by
  have hxs := hx.sz
  have hpl := hx.2.1
  have h6 := hx.2.2.1
  obtain ⟨z, e, e1, e2, e3⟩ := spec_l9RowF_any n x r (by omega) (by omega) (by omega)
  have wz : z.wf := ⟨rows_wf hx.1.1 wr (by omega) e3, by rw [e1]; exact hx.1.2.1, trivial⟩
  obtain ⟨y, b, f, g⟩ := spec_l9OrF_gt n p hp x z hx wz (by rw [e1]; exact hpl) (by omega) (fun v hv => by
    rcases e3 v hv with a | a
    · rw [a]; exact hr
    · exact hx.2.2.2.2 v a) hn
  refine ⟨y, b, ?_, g⟩
  simp only [spec_PutRowF, hpl, hx.2.2.2.1, Option.bind_some, Bool.not_true, cond_false, e, f]
theorem small_and : ∀ a < 64, ∀ b < 64, IntKind.wrap .i64 (BitVec.ofInt (IntKind.bits .i64) ((a : Nat) : Int) &&& BitVec.ofInt (IntKind.bits .i64) ((b : Nat) : Int)).toNat = ((a &&& b : Nat) : Int) := by decide +kernel
theorem small_all : ∀ p < 7, IntKind.wrap .u64 ((p : Nat) : Int) = p ∧ IntKind.wrap .i64 ((IntKind.wrap .i64 ((IntKind.wrap .i64 (1 * 2 ^ min (((IntKind.wrap .u64 ((p : Nat) : Int)) : Int)).toNat (IntKind.bits .i64))) - 1)) + 1) = ((2 ^ p : Nat) : Int) ∧ (IntKind.wrap .i64 ((IntKind.wrap .i64 (1 * 2 ^ min (((IntKind.wrap .u64 ((p : Nat) : Int)) : Int)).toNat (IntKind.bits .i64))) - 1)) = ((2 ^ p - 1 : Nat) : Int) ∧ 1 ≤ 2 ^ p ∧ 2 ^ p ≤ 64 := by decide +kernel
theorem intWf_small {z : Int} (h0 : -1000000 ≤ z) (h1 : z ≤ 1000000) : intWf z := by
  show (Lit.int .i64 z).wf = true
  simp [Lit.wf, show IntKind.wrap .i64 z = z from wrap64 (by omega) (by omega)]
  exact ⟨by show (-9223372036854775808 : Int) ≤ z; omega, by omega⟩
theorem spec_l9Row2F_ok (n p : Nat) (hp : p < 7) (c : Src) (h : c.ok) : ∃ v c', spec_l9Row2F n c p = some (v, c') ∧ v.wf ∧ 0 ≤ v.Bare ∧ v.Bare ≤ 63 ∧ c'.ok := by
  obtain ⟨s1, s2, s3, s4, s5⟩ := small_all p hp
  obtain ⟨v1, c1, e1, a1, b1, g1⟩ := spec_l1BelowF_ok n c ((2 ^ p : Nat) : Int) h
  obtain ⟨v2, c2, e2, a2, g2⟩ := spec_l1IntF_ok n c1 [1, 2, 3, 2] g1 (by decide)
  obtain ⟨v3, c3, e3, a3, b3, g3⟩ := spec_l1BelowF_ok n c2 ((2 ^ p : Nat) : Int) g2
  have b1 := b1 (by omega)
  have b3 := b3 (by omega)
  obtain ⟨x, rfl⟩ : ∃ x : Nat, v1 = x := ⟨v1.toNat, by omega⟩
  obtain ⟨y, rfl⟩ : ∃ y : Nat, v3 = y := ⟨v3.toNat, by omega⟩
  have hand := small_and x (by omega) y (by omega)
  have hle : x &&& y ≤ x := Nat.and_le_left
  have hu : decide ((0 : Int) ≤ IntKind.wrap .u64 ((p : Nat) : Int)) = true := decide_eq_true (by rw [s1]; omega)
  unfold spec_l9Row2F
  simp only [s2, hu, cond_true, e1, e2, e3, Option.bind_some, hand]
  have w1 : intWf v2 := by
    simp only [List.mem_cons, List.not_mem_nil, or_false] at a2
    refine intWf_small ?_ ?_ <;> rcases a2 with a | a | a | a <;> omega
  have w2 : intWf ((x : Nat) : Int) := intWf_small (by omega) (by omega)
  have w3 : intWf ((x &&& y : Nat) : Int) := intWf_small (by omega) (by omega)
  refine ⟨_, _, rfl, ⟨w1, w2, w3, trivial⟩, ?_, ?_, g3⟩
  · show (0 : Int) ≤ ((x &&& y : Nat) : Int); omega
  · show ((x &&& y : Nat) : Int) ≤ 63; omega
theorem spec_VtabNew_L2_ok (n p : Nat) (hp : p ≤ 1000) : ∀ (m k : Nat) (acc : List Int), k ≤ p → p < m + k → acc = List.replicate k 1 → spec_VtabNew_L2 n m p k acc = some (.inl (List.replicate p 1))
  | 0, k, acc, h1, h2, h3 => by omega
  | m + 1, k, acc, h1, h2, h3 => by
    rw [spec_VtabNew_L2]
    by_cases hk : k < p
    · have hlen : decide (acc.length + [(1 : Int)].length ≤ 268435456) = true := decide_eq_true (by rw [List.length_singleton, h3]; simp; omega)
      simp only [lt_true hk, cond_true, wrap_nat (by omega : k ≤ 1099511627776)]
      refine Eq.trans (congrArg (fun b => cond b _ none) hlen) ?_
      exact spec_VtabNew_L2_ok n p hp m (k + 1) (acc ++ [1]) (by omega) (by omega) (by rw [h3, ← List.replicate_succ'])
    · have he : k = p := by omega
      subst he
      rw [lt_false, cond_false, h3]
theorem spec_VtabNewF_eq (n p : Nat) (h0 : 1 ≤ p) (h1 : p < 7) (hn : 1000 < n) : spec_VtabNewF n p = some ⟨[⟨1, ((2 ^ p - 1 : Nat) : Int), ((2 ^ p - 1 : Nat) : Int)⟩], List.replicate p 1⟩ := by
  obtain ⟨s1, s2, s3, s4, s5⟩ := small_all p h1
  have e := spec_VtabNew_L2_ok n p (by omega) n 0 [] (by omega) (by omega) rfl
  have e : spec_VtabNew_L2 n n p 0 ([] : List Int) = some (.inl (List.replicate p 1)) := e
  unfold spec_VtabNewF
  have hu : decide ((0 : Int) ≤ IntKind.wrap .u64 ((p : Nat) : Int)) = true := decide_eq_true (by rw [s1]; omega)
  simp only [spec_l1InF_val, Option.bind_some, decide_eq_true (show (1 : Int) ≤ (p : Int) by omega), decide_eq_true (show (p : Int) ≤ 6 by omega), Bool.and_self, Bool.not_true, cond_false, hu, cond_true, e, spec_VtabNew_J1, s3]
theorem new_ok : ∀ p < 7, 1 ≤ p → spec_VtabOkF 1048580 ⟨[⟨1, ((2 ^ p - 1 : Nat) : Int), ((2 ^ p - 1 : Nat) : Int)⟩], List.replicate p 1⟩ ((p : Nat) : Int) = some true := by decide +kernel
theorem new_gt (p : Nat) (h0 : 1 ≤ p) (h1 : p < 7) : ∃ v, spec_VtabNewF 1048580 p = some v ∧ VtG 1048580 p v := by
  obtain ⟨s1, s2, s3, s4, s5⟩ := small_all p h1
  have w : intWf ((2 ^ p - 1 : Nat) : Int) := intWf_small (by omega) (by omega)
  refine ⟨_, spec_VtabNewF_eq 1048580 p h0 h1 (by omega), ⟨⟨by show 1 ≤ maxLen; decide, fun v hv => ?_⟩, ⟨by rw [List.length_replicate]; exact Nat.le_trans (Nat.le_of_lt h1) (by decide), fun v hv => ?_⟩, trivial⟩, List.length_replicate, by show 1 ≤ 6; decide, new_ok p h1 h0, fun v hv => ?_⟩
  · rw [List.mem_singleton.1 hv]; have w1 : intWf 1 := intWf_small (by decide) (by decide)
    exact ⟨w1, w, w, trivial⟩
  · rw [(List.mem_replicate.1 hv).2]; exact intWf_small (by decide) (by decide)
  · rw [List.mem_singleton.1 hv]
    have h : (0 : Int) ≤ ((2 ^ p - 1 : Nat) : Int) ∧ ((2 ^ p - 1 : Nat) : Int) ≤ 63 := by omega
    exact h
theorem spec_l9Draw_L2_ok (p : Nat) (h0 : 1 ≤ p) (h7 : p < 7) : ∀ (m k : Nat) (c : Src) (v : Vtab), k < m → k ≤ 1000 → c.ok → VtG 1048580 p v → ∃ (c' : Src) (v' : Vtab), spec_l9Draw_L2 1048580 m p k c.b c.i c.h v.Rows v.Pvid = some (.inl (c'.b, c'.i, c'.h, v'.Rows, v'.Pvid)) ∧ c'.ok ∧ VtG 1048580 p v'
  | 0, k, c, v, h1, h2, h3, h4 => by omega
  | m + 1, k, c, v, h1, h2, h3, h4 => by
    rw [spec_l9Draw_L2]
    by_cases hk : 0 < k
    · obtain ⟨j, rfl⟩ : ∃ j, k = j + 1 := ⟨k - 1, by omega⟩
      have hw : IntKind.wrap .i64 (((j + 1 : Nat) : Int) - 1) = (j : Nat) := by rw [wrap64 (by omega) (by omega)]; omega
      have ih := fun c v h3 h4 => spec_l9Draw_L2_ok p h0 h7 m j c v (by omega) (by omega) h3 h4
      obtain ⟨v1, c1, e1, a1, b1, g1⟩ := spec_l1BelowF_ok 1048580 c 4 h3
      obtain ⟨v2, c2, e2, a2, b2, g2⟩ := spec_l1BelowF_ok 1048580 c1 (p : Int) g1
      obtain ⟨v3, c3, e3, a3, b3, g3⟩ := spec_l1BelowF_ok 1048580 c2 3 g2
      obtain ⟨v4, c4, e4, a4, b4, g4⟩ := spec_l1BelowF_ok 1048580 c1 2 g1
      obtain ⟨v5, c5, e5, w5, p5, q5, g5⟩ := spec_l9Row2F_ok 1048580 p h7 c1 g1
      have b3 := b3 (by decide)
      have b4 := b4 (by decide)
      obtain ⟨y2, d2, f2, k2⟩ := spec_SetPvidF_gt 1048580 p (by omega) v h4 v2 (1 + v3) (intWf_small (by omega) (by omega)) (by omega)
      obtain ⟨y4, d4, f4, k4⟩ := spec_DropRowF_gt 1048580 p (by omega) v h4 (2 + v4) (by omega)
      obtain ⟨y5, d5, f5, k5⟩ := spec_PutRowF_gt 1048580 p (by omega) v h4 v5 w5 ⟨p5, q5⟩ (by omega)
      have hpos : decide (((j + 1 : Nat) : Int) > 0) = true := decide_eq_true (by omega)
      simp only [hpos, cond_true, e1, Option.bind_some, e2, e3, e4, e5, hw, wrap64 (show -9223372036854775808 ≤ 1 + v3 by omega) (by omega), wrap64 (show -9223372036854775808 ≤ 2 + v4 by omega) (by omega), f2, f4, f5]
      cases (v1 == 0)
      · cases (v1 == 1)
        · exact ih c5 y5 g5 k5
        · exact ih c4 y4 g4 k4
      · exact ih c3 y2 g3 k2
    · have : k = 0 := by omega
      subst this
      exact ⟨c, v, rfl, h3, h4⟩
theorem spec_l9DrawF_ok (p : Nat) (h0 : 1 ≤ p) (h7 : p < 7) (c : Src) (h : c.ok) : ∃ v c', spec_l9DrawF 1048580 c p = some (v, c') ∧ VtG 1048580 p v ∧ c'.ok := by
  obtain ⟨v0, e0, g0⟩ := new_gt p h0 h7
  obtain ⟨v1, c1, e1, a1, b1, g1⟩ := spec_l1BelowF_ok 1048580 c 6 h
  have b1 := b1 (by decide)
  obtain ⟨k, rfl⟩ : ∃ k : Nat, v1 = k := ⟨v1.toNat, by omega⟩
  obtain ⟨c', v', e, g, g'⟩ := spec_l9Draw_L2_ok p h0 h7 1048580 k c1 v0 (by omega) (by omega) g1 g0
  unfold spec_l9DrawF
  rw [e0, Option.bind_some, e1, Option.bind_some, e]
  exact ⟨v', c', rfl, g', g⟩
/-- any table that is drawn, bent or not -/
def VtB (x : Vtab) : Prop := x.wf ∧ 1 ≤ x.Pvid.length ∧ x.Pvid.length ≤ 6 ∧ x.Rows.length ≤ 1000 ∧ ∀ r ∈ x.Rows, 0 ≤ r.Bare ∧ r.Bare ≤ 63
theorem spec_l9Any_L2_ok : ∀ (m k : Nat) (v : Vtab), k ≤ 6 → 6 < m + k → VtB v → v.Rows.length * 2 ^ (6 - k) + 2 ^ (6 - k) ≤ 1000 → ∃ (v' : Vtab), spec_l9Any_L2 1048580 m k v.Rows v.Pvid = some (.inl (v'.Rows, v'.Pvid)) ∧ VtB v'
  | 0, k, v, h1, h2, h3, h4 => by omega
  | m + 1, k, v, h1, h2, h3, h4 => by
    rw [spec_l9Any_L2]
    by_cases hk : k < 6
    · have hp : 2 ^ (6 - k) = 2 * 2 ^ (6 - (k + 1)) := by rw [← Nat.pow_succ']; congr 1; omega
      have hpos : 1 ≤ 2 ^ (6 - (k + 1)) := Nat.pos_of_ne_zero (by simp)
      obtain ⟨y, e, e1, e2, e3⟩ := spec_l9RowF_any 1048580 (⟨v.Rows, v.Pvid⟩ : Vtab) (⟨IntKind.wrap .i64 (10 + (k : Int)), 0, 0⟩ : Vrow) h3.2.2.2.1 (Nat.le_trans h3.2.2.1 (by decide)) (by omega)
      have e2 : y.Rows.length ≤ 2 * v.Rows.length + 1 := e2
      have e1 : y.Pvid = v.Pvid := e1
      have hle : y.Rows.length * 2 ^ (6 - (k + 1)) + 2 ^ (6 - (k + 1)) ≤ 1000 := by
        refine Nat.le_trans ?_ h4
        rw [hp]
        have := Nat.mul_le_mul_right (2 ^ (6 - (k + 1))) e2
        have h5 : (2 * v.Rows.length + 1) * 2 ^ (6 - (k + 1)) = v.Rows.length * (2 * 2 ^ (6 - (k + 1))) + 2 ^ (6 - (k + 1)) := by
          rw [Nat.add_mul, Nat.one_mul, Nat.mul_comm 2 v.Rows.length, Nat.mul_assoc]
        omega
      have hl : y.Rows.length ≤ 1000 := by
        have := Nat.mul_le_mul_left y.Rows.length hpos
        omega
      have wr : Vrow.wf (⟨IntKind.wrap .i64 (10 + (k : Int)), 0, 0⟩ : Vrow) := by
        rw [wrap64 (by omega) (by omega)]
        have w0 : intWf 0 := intWf_small (by decide) (by decide)
        exact ⟨intWf_small (by show (-1000000 : Int) ≤ 10 + (k : Int); omega) (by show 10 + (k : Int) ≤ 1000000; omega), w0, w0, trivial⟩
      have gy : VtB y := ⟨⟨rows_wf h3.1.1 wr (by omega) e3, by rw [e1]; exact h3.1.2.1, trivial⟩, by rw [e1]; exact h3.2.1, by rw [e1]; exact h3.2.2.1, hl, fun r hr => by
        rcases e3 r hr with a | a
        · rw [a]; exact (show (0 : Int) ≤ 0 ∧ (0 : Int) ≤ 63 by decide)
        · exact h3.2.2.2.2 r a⟩
      simp only [decide_eq_true (show (k : Int) < 6 by omega), cond_true, e, Option.bind_some, wrap_nat (by omega : k ≤ 1099511627776)]
      exact spec_l9Any_L2_ok m (k + 1) y (by omega) (by omega) gy hle
    · have : k = 6 := by omega
      subst this
      exact ⟨v, rfl, h3⟩
theorem spec_l9AnyF_ok (c : Src) (h : c.ok) : ∃ v p c', spec_l9AnyF 1048580 c = some (v, p, c') ∧ VtB v ∧ intWf p ∧ c'.ok := by
  obtain ⟨v1, c1, e1, a1, b1, g1⟩ := spec_l1BelowF_ok 1048580 c 4 h
  have b1 := b1 (by decide)
  obtain ⟨k, rfl⟩ : ∃ k : Nat, v1 = k := ⟨v1.toNat, by omega⟩
  have hw : IntKind.wrap .i64 (1 + (k : Int)) = ((k + 1 : Nat) : Int) := by rw [wrap64 (by omega) (by omega)]; omega
  obtain ⟨v, c2, e2, gv, g2⟩ := spec_l9DrawF_ok (k + 1) (by omega) (by omega) c1 g1
  have hl := gv.2.1
  have h6 := gv.2.2.1
  have bv : VtB v := ⟨gv.1, by omega, by omega, by omega, gv.2.2.2.2⟩
  have wk : intWf ((k + 1 : Nat) : Int) := intWf_small (by omega) (by omega)
  obtain ⟨v3, c3, e3, a3, b3, g3⟩ := spec_l1BelowF_ok 1048580 c2 12 g2
  obtain ⟨v4, c4, e4, a4, g4⟩ := spec_l1IntF_ok 1048580 c3 [0, 1, 9, 100] g3 (by decide)
  obtain ⟨v5, c5, e5, a5, g5⟩ := spec_l1IntF_ok 1048580 c4 [(-1), 0, 1, 64] g4 (by decide)
  obtain ⟨v6, c6, e6, a6, b6, g6⟩ := spec_l1BelowF_ok 1048580 c5 3 g5
  have b6 := b6 (by decide)
  obtain ⟨v7, c7, e7, a7, g7⟩ := spec_l1IntF_ok 1048580 c3 [0, 7] g3 (by decide)
  obtain ⟨v8, c8, e8, a8, g8⟩ := spec_l1IntF_ok 1048580 c3 [0, 6, 7] g3 (by decide)
  obtain ⟨u, hu, _⟩ := idx_of (xs := v.Pvid) (i := 0) (by omega) (by omega)
  obtain ⟨z, ez, bz⟩ := spec_l9Any_L2_ok 1048580 0 v (by omega) (by omega) bv (by show v.Rows.length * 64 + 64 ≤ 1000; omega)
  have ez : spec_l9Any_L2 1048580 1048580 0 v.Rows v.Pvid = some (.inl (z.Rows, z.Pvid)) := ez
  simp only [List.mem_cons, List.not_mem_nil, or_false] at a4 a5 a7 a8
  have w4 : intWf v4 := by refine intWf_small ?_ ?_ <;> rcases a4 with a | a | a | a <;> omega
  have w5 : intWf v5 := by refine intWf_small ?_ ?_ <;> rcases a5 with a | a | a | a <;> omega
  have w6 : intWf v6 := intWf_small (by omega) (by omega)
  have w7 : intWf v7 := by refine intWf_small ?_ ?_ <;> rcases a7 with a | a <;> omega
  have w8 : intWf v8 := by refine intWf_small ?_ ?_ <;> rcases a8 with a | a | a <;> omega
  have hlen : decide (v.Rows.length + [(⟨v4, v5, v6⟩ : Vrow)].length ≤ 268435456) = true := decide_eq_true (by rw [List.length_singleton]; omega)
  unfold spec_l9AnyF
  simp only [e1, Option.bind_some, hw, e2, e3, e4, e5, e6, e7, e8, hu, hlen, cond_true, ez, spec_l9Any_J1]
  cases (v3 == 0)
  · cases (v3 == 1)
    · cases (v3 == 2)
      · cases (v3 == 3)
        · exact ⟨_, _, _, rfl, bv, wk, g3⟩
        · exact ⟨_, _, _, rfl, bz, wk, g3⟩
      · exact ⟨_, _, _, rfl, bv, w8, g8⟩
    · exact ⟨_, _, _, rfl, ⟨⟨bv.1.1, listWf_set bv.1.2.1 w7, trivial⟩, by show 1 ≤ (v.Pvid.set ((0 : Int)).toNat v7).length; rw [List.length_set]; omega, by show (v.Pvid.set ((0 : Int)).toNat v7).length ≤ 6; rw [List.length_set]; omega, bv.2.2.2⟩, wk, g7⟩
  · refine ⟨_, _, _, rfl, ⟨⟨rows_wf bv.1.1 (r := ⟨v4, v5, v6⟩) ⟨w4, w5, w6, trivial⟩ (by show (v.Rows ++ [_]).length ≤ 4000; simp; omega) fun r hr => ?_, bv.1.2⟩, bv.2.1, bv.2.2.1, by show (v.Rows ++ [_]).length ≤ 1000; simp; omega, fun r hr => ?_⟩, wk, g6⟩
    · rcases List.mem_append.1 hr with a | a
      · exact .inr a
      · exact .inl (List.mem_singleton.1 a)
    · rcases List.mem_append.1 hr with a | a
      · exact bv.2.2.2.2 r a
      · rw [List.mem_singleton.1 a]; exact ⟨a6, by show v6 ≤ 63; omega⟩
theorem spec_l9TabF_ok (c : Src) (h : c.ok) : ∃ v c', spec_l9TabF 1048580 c = some (v, c') ∧ VtB v ∧ c'.ok := by
  obtain ⟨v, p, c', e, g1, g2, g3⟩ := spec_l9AnyF_ok c h
  exact ⟨v, c', by unfold spec_l9TabF; rw [e]; rfl, g1, g3⟩
/-- the bit of a port -/
def bitV (a : Int) (i : Nat) : Bool := (IntKind.wrap .i64 (BitVec.ofInt (IntKind.bits .i64) (Int.fdiv a (2 ^ min ((i : Int)).toNat (IntKind.bits .i64))) &&& BitVec.ofInt (IntKind.bits .i64) 1).toNat == 1)
theorem bitV_nine : ∀ a < 64, bitV ((a : Nat) : Int) 9 = false := by decide +kernel
theorem impl_hasPortF_val (n : Nat) (a : Int) (i : Nat) (h : i ≤ 62) : impl_hasPortF n a i = some (bitV a i) := by
  unfold impl_hasPortF
  simp only [impl_inF_eq, spec_l1InF_val, Option.bind_some, decide_eq_true (show (0 : Int) ≤ (i : Int) by omega), decide_eq_true (show (i : Int) ≤ 62 by omega), Bool.and_self, cond_true]
  rfl
theorem impl_hasPortF_neg (n : Nat) (a i : Int) (h : i < 0) : impl_hasPortF n a i = some false := by
  unfold impl_hasPortF
  simp only [impl_inF_eq, spec_l1InF_val, Option.bind_some, decide_eq_false (show ¬ (0 : Int) ≤ i by omega), Bool.false_and, cond_false]
theorem spec_l9BitF_val (n : Nat) (a : Int) (i : Nat) (h : i ≤ 7) : spec_l9BitF n a i = some (bitV a i) := by
  unfold spec_l9BitF
  have hu : IntKind.wrap .u64 (i : Int) = i := wrapU (by omega)
  simp only [spec_l1InF_val, Option.bind_some, decide_eq_true (show (0 : Int) ≤ (i : Int) by omega), decide_eq_true (show (i : Int) ≤ 7 by omega), Bool.and_self, cond_true, hu]
  rfl
theorem spec_l9BitF_out (n : Nat) (a i : Int) (h : i < 0 ∨ 7 < i) : spec_l9BitF n a i = some false := by
  unfold spec_l9BitF
  have : (decide ((0 : Int) ≤ i) && decide (i ≤ 7)) = false := by
    simp only [Bool.and_eq_false_iff, decide_eq_false_iff_not]; omega
  simp only [spec_l1InF_val, Option.bind_some, this, cond_false]
theorem laws_bitF_valG (n : Nat) (a : Int) (i : Nat) (h : i ≤ 7) : laws_bitF n a i = some (bitV a i) := by
  unfold laws_bitF
  have hu : IntKind.wrap .u64 (i : Int) = i := wrapU (by omega)
  simp only [decide_eq_true (show (i : Int) ≥ 0 by omega), decide_eq_true (show (i : Int) < 8 by omega), cond_true, hu, decide_eq_true (show (0 : Int) ≤ (i : Int) by omega)]
  rfl
theorem spec_ClassOfF_some (n : Nat) (x : Vtab) (h : x.Rows.length ≤ 1048580) (hn : x.Rows.length < n) (hq : x.Pvid.length ≤ 1048580) (p t : Int) (hp : -1 ≤ p ∧ p ≤ 7) : ∃ a b, spec_ClassOfF n x p t = some (a, b) ∧ impl_ClassOfF n x p t = some (a, b) ∧ (b = true → ∃ (i : Nat) (m : Int), p = i ∧ i ≤ 7 ∧ impl_EgressOfF n x a = some m ∧ bitV m i = true) := by
  have hw : IntKind.wrap .i64 ((x.Pvid.length : Int) - 1) = (x.Pvid.length : Int) - 1 := wrap64 (by omega) (by omega)
  by_cases hi : 0 ≤ p ∧ p ≤ (x.Pvid.length : Int) - 1
  · obtain ⟨i, rfl⟩ : ∃ i : Nat, p = i := ⟨p.toNat, by omega⟩
    obtain ⟨v, hv, _⟩ := idx_of (xs := x.Pvid) hi.1 (by omega)
    have hj : ∀ z, ∃ a b, spec_ClassOf_J1 n x i z = some (a, b) ∧ impl_ClassOf_J1 n x i z = some (a, b) ∧ (b = true → ∃ (i' : Nat) (m : Int), (i : Int) = i' ∧ i' ≤ 7 ∧ impl_EgressOfF n x a = some m ∧ bitV m i' = true) := fun z => by
      obtain ⟨r, hr, hk⟩ := spec_RowAtF_ok n x z h hn
      unfold spec_ClassOf_J1 impl_ClassOf_J1
      rw [impl_RowAtF_eq, hr]
      simp only [Option.bind_some]
      by_cases hneg : r < 0
      · rw [decide_eq_true hneg]
        exact ⟨0, false, rfl, rfl, by simp⟩
      · rw [decide_eq_false hneg]
        rcases hk with ⟨rfl, _⟩ | ⟨u, h0, hu, _⟩
        · omega
        simp only [cond_false, hu, Option.bind_some, spec_l9BitF_val n u.Members i (by omega), impl_hasPortF_val n u.Members i (by omega)]
        cases hb : bitV u.Members i
        · exact ⟨0, false, rfl, rfl, by simp⟩
        · refine ⟨z, true, rfl, rfl, fun _ => ⟨i, u.Members, rfl, by omega, ?_, hb⟩⟩
          rw [impl_EgressOfF_eq]
          unfold spec_EgressOfF
          rw [hr]
          simp only [Option.bind_some, decide_eq_false hneg, cond_false, hu]
    unfold spec_ClassOfF impl_ClassOfF
    simp only [impl_inF_eq, spec_l1InF_val, Option.bind_some, hw, decide_eq_true hi.1, decide_eq_true hi.2, Bool.and_self, Bool.not_true, cond_false, hv]
    cases (t == 0)
    · exact hj t
    · exact hj v
  · have hp' : (decide (0 ≤ p) && decide (p ≤ (x.Pvid.length : Int) - 1)) = false := by
      simp only [Bool.and_eq_false_iff, decide_eq_false_iff_not]; omega
    refine ⟨0, false, ?_, ?_, by simp⟩
    · unfold spec_ClassOfF
      simp only [spec_l1InF_val, Option.bind_some, hw, hp', Bool.not_false, cond_true]
    · unfold impl_ClassOfF
      simp only [impl_inF_eq, spec_l1InF_val, Option.bind_some, hw, hp', Bool.not_false, cond_true]
theorem spec_ShownTagF_some (n : Nat) (x : Vtab) (h : x.Rows.length ≤ 1048580) (hn : x.Rows.length < n) (hb : ∀ r ∈ x.Rows, 0 ≤ r.Bare ∧ r.Bare ≤ 63) (id p : Int) (hp : (-1 ≤ p ∧ p ≤ 7) ∨ p = 9) : ∃ t, spec_ShownTagF n x id p = some t ∧ impl_ShownTagF n x id p = some t ∧ (t = 0 ∨ t = id) := by
  obtain ⟨r, hr, hk⟩ := spec_RowAtF_ok n x id h hn
  unfold spec_ShownTagF impl_ShownTagF
  rw [impl_RowAtF_eq, hr]
  simp only [Option.bind_some]
  by_cases hneg : r < 0
  · rw [decide_eq_true hneg]
    exact ⟨0, rfl, rfl, .inl rfl⟩
  · rw [decide_eq_false hneg]
    rcases hk with ⟨rfl, _⟩ | ⟨u, h0, hu, _⟩
    · omega
    have hB := hb u (idx_mem hu)
    have hbit : ∃ b, spec_l9BitF n u.Bare p = some b ∧ impl_hasPortF n u.Bare p = some b := by
      rcases hp with hp | rfl
      · by_cases h0 : 0 ≤ p
        · obtain ⟨i, rfl⟩ : ∃ i : Nat, p = i := ⟨p.toNat, by omega⟩
          exact ⟨_, spec_l9BitF_val n u.Bare i (by omega), impl_hasPortF_val n u.Bare i (by omega)⟩
        · exact ⟨false, spec_l9BitF_out n _ _ (by omega), impl_hasPortF_neg n _ _ (by omega)⟩
      · obtain ⟨a, ha⟩ : ∃ a : Nat, u.Bare = a := ⟨u.Bare.toNat, by omega⟩
        refine ⟨false, spec_l9BitF_out n _ _ (by omega), ?_⟩
        have := impl_hasPortF_val n u.Bare 9 (by omega)
        rw [ha, bitV_nine a (by omega)] at this
        rw [ha]; exact this
    obtain ⟨b, b1, b2⟩ := hbit
    simp only [cond_false, hu, Option.bind_some, b1, b2]
    cases b
    · exact ⟨id, rfl, rfl, .inr rfl⟩
    · exact ⟨0, rfl, rfl, .inl rfl⟩
theorem laws_FnClasses_plain (x0 : List Int) (w0 : listWf byteWf x0) : ∃ n, laws_FnClassesF n x0 = some true := by
  refine ⟨1048580, ?_⟩
  simp only [laws_FnClassesF, laws_bigF, Option.bind_some]
  by_cases hb : (x0.length : Int) > 1048576
  · rw [decide_eq_true hb]; rfl
  · rw [decide_eq_false hb]
    obtain ⟨c, e, g⟩ := spec_l1NewF_ok 1048580 x0 (by omega) (by omega)
    obtain ⟨v, c1, e1, b1, g1⟩ := spec_l9TabF_ok c g
    obtain ⟨p2, c2, e2, a2, g2⟩ := spec_l1IntF_ok 1048580 c1 [0, 1, 2, 3, (-1), 6] g1 (by decide)
    obtain ⟨p3, c3, e3, a3, g3⟩ := spec_l1IntF_ok 1048580 c2 [0, 0, 1, 2, 3, 9] g2 (by decide)
    obtain ⟨p4, c4, e4, a4, g4⟩ := spec_l1IntF_ok 1048580 c1 [1, 2, 3, 9] g1 (by decide)
    obtain ⟨p5, c5, e5, a5, g5⟩ := spec_l1IntF_ok 1048580 c4 [0, 1, 2, 3, (-1), 9] g4 (by decide)
    obtain ⟨p6, c6, e6, a6, g6⟩ := spec_l1IntF_ok 1048580 c1 [1, 2, 3, 0, 9] g1 (by decide)
    have d1 : spec_DrawClassOfF 1048580 x0 = some (v, p2, p3) := by simp only [spec_DrawClassOfF, e, e1, e2, e3, Option.bind_some]
    have d2 : spec_DrawShownTagF 1048580 x0 = some (v, p4, p5) := by simp only [spec_DrawShownTagF, e, e1, e4, e5, Option.bind_some]
    have d3 : spec_DrawEgressOfF 1048580 x0 = some (v, p6) := by simp only [spec_DrawEgressOfF, spec_DrawRowAtF, e, e1, e6, Option.bind_some]
    simp only [List.mem_cons, List.not_mem_nil, or_false] at a2 a5
    have hl := b1.2.2.2.1
    have hq := b1.2.2.1
    obtain ⟨a, b, h1, h2, h3⟩ := spec_ClassOfF_some 1048580 v (by omega) (by omega) (by omega) p2 p3 (by rcases a2 with a | a | a | a | a | a <;> omega)
    obtain ⟨t, h4, h5, h6⟩ := spec_ShownTagF_some 1048580 v (by omega) (by omega) b1.2.2.2.2 p4 p5 (by rcases a5 with a | a | a | a | a | a <;> omega)
    obtain ⟨q, h7⟩ := spec_EgressOfF_ok 1048580 v p6 (by omega) (by omega)
    have hj : laws_FnClasses_J1 1048580 (v, p4, p5) (v, p6) = some true := by
      unfold laws_FnClasses_J1
      simp only [h4, h5, Option.bind_some, beq_self_eq_true, cond_true, impl_EgressOfF_eq, h7]
      rcases h6 with h6 | h6
      · rw [h6]; rfl
      · have : (t == p4) = true := by simp [h6]
        rw [this]
        cases (t == 0) <;> rfl
    simp only [cond_false, d1, d2, d3, h1, h2, Option.bind_some, beq_self_eq_true, bne_self_eq_false, Bool.not_true]
    cases b
    · exact hj
    · obtain ⟨i, m, rfl, i7, k1, k2⟩ := h3 rfl
      simp only [cond_true, k1, Option.bind_some, laws_bitF_valG 1048580 m i i7, k2, Bool.not_true, cond_false]
      exact hj
end Go.Proofs.Ytnhmckiejhbmcaa.Tw
