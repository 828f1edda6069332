/- What the functions answer, on plain data. -/
import Derived.Test.YtnhmckiejhbmcaaTwFR
import Derived.Test.YtnhmckiejhbmcaaTlPlain
set_option linter.unusedVariables false
set_option linter.unusedSimpArgs false
set_option maxRecDepth 100000
set_option maxHeartbeats 1000000
namespace Go.Proofs.Ytnhmckiejhbmcaa.Tw
open Go Go.TL Go.Proofs
theorem spec_l1InF_tot (n : Nat) (a b c : Int) : Tot (spec_l1InF n a b c) := Tot.bif (fun _ => .of) (fun _ => .of)
theorem impl_VecOkF_eq (n : Nat) : impl_VecOkF n = spec_VecOkF n := rfl
theorem spec_VecOkF_tot (n : Nat) (v : Vec) : Tot (spec_VecOkF n v) := by
  unfold spec_VecOkF
  repeat' first | exact Tot.of | refine Tot.bind (spec_l1InF_tot _ _ _ _) fun _ _ => ?_ | refine Tot.bif (fun _ => ?_) (fun _ => ?_)
theorem impl_StepVecF_eq (n : Nat) : impl_StepVecF n = spec_StepVecF n := rfl
theorem spec_StepVecF_tot (n : Nat) (v : Vec) (c : Int) : Tot (spec_StepVecF n v c) := by
  unfold spec_StepVecF
  repeat' first | exact Tot.of | refine Tot.bind (spec_l1InF_tot _ _ _ _) fun _ _ => ?_ | refine Tot.bind (spec_VecOkF_tot _ _) fun _ _ => ?_ | refine Tot.bif (fun _ => ?_) (fun _ => ?_)
theorem impl_LessVecF_eq (n : Nat) : impl_LessVecF n = spec_LessVecF n := rfl
theorem spec_LessVecF_tot (n : Nat) (v u : Vec) : Tot (spec_LessVecF n v u) := by
  unfold spec_LessVecF
  repeat' first | exact Tot.of | refine Tot.bif (fun _ => ?_) (fun _ => ?_)
theorem spec_BestVec_L2_tot (n : Nat) (x0 : Int) (x1 : List Pt) (h : x1.length ≤ 1048576) : ∀ (m k : Nat) (y2 y3 y4 y5 y6 y7 y8 y9 y10 : Int), k ≤ x1.length → x1.length < m + k → Tot (spec_BestVec_L2 n m x0 x1 k y2 y3 y4 y5 y6 y7 y8 y9 y10)
  | 0, k, y2, y3, y4, y5, y6, y7, y8, y9, y10, h1, h2 => by omega
  | m + 1, k, y2, y3, y4, y5, y6, y7, y8, y9, y10, h1, h2 => by
    rw [spec_BestVec_L2]
    refine Tot.step (fun hk => ?_) .of
    have ih := fun y2 y3 y4 y5 y6 y7 y8 y9 y10 => spec_BestVec_L2_tot n x0 x1 h m (k + 1) y2 y3 y4 y5 y6 y7 y8 y9 y10 (by omega) (by omega)
    simp only [spec_BestVec_J3, wrap_nat (by omega : k ≤ 1099511627776)]
    repeat' first | exact ih _ _ _ _ _ _ _ _ _ | exact Tot.of | refine Tot.bind (idx_tot hk) fun _ _ => ?_ | refine Tot.bind (spec_StepVecF_tot _ _ _) fun _ _ => ?_ | refine Tot.bind (spec_LessVecF_tot _ _ _) fun _ _ => ?_ | refine Tot.bif (fun _ => ?_) (fun _ => ?_)
theorem spec_BestVecF_tot (n : Nat) (x0 : Int) (x1 : List Pt) (h : x1.length ≤ 1048576) (hn : x1.length < n) : Tot (spec_BestVecF n x0 x1) := by
  unfold spec_BestVecF
  refine Tot.bind (spec_BestVec_L2_tot n x0 x1 h n 0 _ _ _ _ _ _ _ _ _ (by omega) (by omega)) fun o _ => ?_
  cases o <;> exact Tot.of
theorem impl_BestVec_L2_eq (n : Nat) : impl_BestVec_L2 n = spec_BestVec_L2 n := by
  funext m
  induction m with
  | zero => rfl
  | succ m ih =>
    funext x0 x1 y1 y2 y3 y4 y5 y6 y7 y8 y9 y10
    simp only [impl_BestVec_L2, spec_BestVec_L2, ih, impl_BestVec_J3, spec_BestVec_J3, impl_StepVecF_eq, impl_LessVecF_eq]
    cases idx x1 y1 <;> rfl
theorem impl_BestVecF_eq (n : Nat) : impl_BestVecF n = spec_BestVecF n := by
  funext x i; simp only [impl_BestVecF, spec_BestVecF, impl_BestVec_L2_eq]; rfl
theorem impl_SayVecF_eq (n : Nat) : impl_SayVecF n = spec_SayVecF n := by
  funext x i y; simp only [impl_SayVecF, spec_SayVecF, impl_BestVecF_eq]
theorem spec_SayVecF_tot (n : Nat) (x0 : Int) (x1 : List Pt) (x2 : Int) (h : x1.length ≤ 1048576) (hn : x1.length < n) : Tot (spec_SayVecF n x0 x1 x2) := Tot.bind (spec_BestVecF_tot n x0 x1 h hn) fun _ _ => .of
theorem impl_RoleOfF_eq (n : Nat) : impl_RoleOfF n = spec_RoleOfF n := by
  funext x i y; simp only [impl_RoleOfF, spec_RoleOfF, impl_BestVecF_eq, impl_SayVecF_eq, impl_LessVecF_eq]; rfl
theorem spec_RoleOfF_ok (n : Nat) (x0 : Int) (x1 : List Pt) (x2 : Int) (h : x1.length ≤ 1048576) (hn : x1.length < n) : ∃ r, spec_RoleOfF n x0 x1 x2 = some r ∧ 1 ≤ r ∧ r ≤ 4 := by
  unfold spec_RoleOfF spec_l1InF
  rw [wrap64 (by omega) (by omega)]
  obtain ⟨b, hb⟩ := spec_BestVecF_tot n x0 x1 h hn
  obtain ⟨s, hs⟩ := spec_SayVecF_tot n x0 x1 x2 h hn
  by_cases h1 : x2 ≥ 0
  · by_cases h2 : x2 ≤ (x1.length : Int) - 1
    · obtain ⟨v, hv, _⟩ := idx_of (xs := x1) h1 (by omega)
      obtain ⟨l, hl⟩ := spec_LessVecF_tot n s v.Heard
      simp only [decide_eq_true h1, decide_eq_true h2, cond_true, Option.bind_some, Bool.not_true, cond_false, hb, hs, hv, hl]
      cases v.Up <;> cases (b.2 == x2) <;> cases v.Has <;> cases l <;> exact ⟨_, rfl, by decide, by decide⟩
    · simp only [decide_eq_true h1, decide_eq_false h2, cond_true, Option.bind_some, Bool.not_false]
      exact ⟨_, rfl, by decide, by decide⟩
  · simp only [decide_eq_false h1, cond_false, Option.bind_some, Bool.not_false, cond_true]
    exact ⟨_, rfl, by decide, by decide⟩
theorem wrapU {k : Nat} (h : k ≤ 1099511627776) : IntKind.wrap .u64 (k : Int) = k := by
  show ((k : Int) % 18446744073709551616) = k
  omega
theorem impl_inF_eq (n : Nat) : impl_inF n = spec_l1InF n := rfl
theorem spec_l1InF_val (n : Nat) (a b c : Int) : spec_l1InF n a b c = some (decide (b ≤ a) && decide (a ≤ c)) := by
  unfold spec_l1InF
  by_cases h : a ≥ b
  · rw [decide_eq_true h]; rfl
  · rw [decide_eq_false h]; rfl
theorem listWf_sub {α : Type} {wf : α → Prop} {xs ys : List α} (h : listWf wf xs) (hs : ∀ y ∈ ys, y ∈ xs) (hl : ys.length ≤ xs.length) : listWf wf ys := ⟨Nat.le_trans hl h.1, fun y hy => h.2 y (hs y hy)⟩
theorem listWf_set {α : Type} {wf : α → Prop} {xs : List α} {i : Nat} {v : α} (h : listWf wf xs) (hv : wf v) : listWf wf (xs.set i v) := ⟨by rw [List.length_set]; exact h.1, fun y hy => by
  rcases List.mem_or_eq_of_mem_set hy with h1 | h1
  · exact h.2 y h1
  · rw [h1]; exact hv⟩
def Src.ok (c : Src) : Prop := 0 ≤ c.i ∧ c.b.length ≤ 1099511627776
theorem and255 (z : Int) : ∃ v : Int, (IntKind.wrap .i64 (BitVec.ofInt (IntKind.bits .i64) z &&& BitVec.ofInt (IntKind.bits .i64) 255).toNat) = v ∧ 0 ≤ v ∧ v ≤ 255 := by
  have h : (BitVec.ofInt 64 z &&& BitVec.ofInt 64 255).toNat ≤ 255 := by
    rw [BitVec.toNat_and]
    exact Nat.le_trans Nat.and_le_right (by decide)
  refine ⟨((BitVec.ofInt 64 z &&& BitVec.ofInt 64 255).toNat : Int), ?_, by omega, by omega⟩
  exact wrap64 (z := ((BitVec.ofInt 64 z &&& BitVec.ofInt 64 255).toNat : Int)) (by omega) (by omega)
theorem spec_l1ByteF_ok (n : Nat) (c : Src) (h : c.ok) : ∃ v c', spec_l1ByteF n c = some (v, c') ∧ 0 ≤ v ∧ v ≤ 255 ∧ c'.ok := by
  unfold spec_l1ByteF
  rw [show decide ((0 : Int) ≤ 33) = true from rfl, show decide ((0 : Int) ≤ 47) = true from rfl]
  simp only [cond_true]
  by_cases hi : c.i < (c.b.length : Int)
  · obtain ⟨v, hv, _⟩ := idx_of (xs := c.b) h.1 hi
    rw [decide_eq_true hi, hv, wrap64 (z := c.i + 1) (by have := h.1; omega) (by have := h.2; omega)]
    obtain ⟨w, e, e1, e2⟩ := and255 (IntKind.wrap .i64 ((IntKind.wrap .i64 (BitVec.ofInt (IntKind.bits .i64) (IntKind.wrap .i64 (BitVec.ofInt (IntKind.bits .i64) (Int.fdiv (IntKind.wrap .i64 ((IntKind.wrap .i64 (c.h * 6364136223846793005)) + 1442695040888963407)) (2 ^ min ((33 : Int)).toNat (IntKind.bits .i64))) ^^^ BitVec.ofInt (IntKind.bits .i64) (Int.fdiv (IntKind.wrap .i64 ((IntKind.wrap .i64 (c.h * 6364136223846793005)) + 1442695040888963407)) (2 ^ min ((47 : Int)).toNat (IntKind.bits .i64)))).toNat) &&& BitVec.ofInt (IntKind.bits .i64) 255).toNat) + (IntKind.wrap .i64 v)))
    simp only [cond_true, Option.bind_some]
    exact ⟨_, _, rfl, by rw [e]; exact e1, by rw [e]; exact e2, by have := h.1; show 0 ≤ c.i + 1; omega, h.2⟩
  · rw [decide_eq_false hi]
    obtain ⟨w, e, e1, e2⟩ := and255 (IntKind.wrap .i64 (BitVec.ofInt (IntKind.bits .i64) (Int.fdiv (IntKind.wrap .i64 ((IntKind.wrap .i64 (c.h * 6364136223846793005)) + 1442695040888963407)) (2 ^ min ((33 : Int)).toNat (IntKind.bits .i64))) ^^^ BitVec.ofInt (IntKind.bits .i64) (Int.fdiv (IntKind.wrap .i64 ((IntKind.wrap .i64 (c.h * 6364136223846793005)) + 1442695040888963407)) (2 ^ min ((47 : Int)).toNat (IntKind.bits .i64)))).toNat)
    simp only [cond_false]
    exact ⟨_, _, rfl, by rw [e]; exact e1, by rw [e]; exact e2, h.1, h.2⟩
theorem tmod_in {v k : Int} (h0 : 0 ≤ v) (hk : 0 < k) : 0 ≤ Int.tmod v k ∧ Int.tmod v k < k := by
  rw [Int.tmod_eq_emod_of_nonneg h0]
  exact ⟨Int.emod_nonneg _ (by omega), Int.emod_lt_of_pos _ hk⟩
theorem spec_l1BelowF_ok (n : Nat) (c : Src) (k : Int) (h : c.ok) : ∃ v c', spec_l1BelowF n c k = some (v, c') ∧ 0 ≤ v ∧ (0 < k → v < k) ∧ c'.ok := by
  unfold spec_l1BelowF
  by_cases h1 : k ≤ 0
  · rw [decide_eq_true h1]
    exact ⟨0, c, rfl, by omega, fun h => by omega, h⟩
  · rw [decide_eq_false h1]
    have hne : decide ((k : Int) ≠ 0) = true := decide_eq_true (by omega)
    by_cases h2 : k ≤ 256
    · rw [decide_eq_true h2]
      obtain ⟨v, c', e, e1, e2, e3⟩ := spec_l1ByteF_ok n c h
      simp only [cond_true, cond_false, e, Option.bind_some, hne]
      obtain ⟨t1, t2⟩ := tmod_in e1 (show 0 < k by omega)
      exact ⟨_, _, rfl, t1, fun _ => t2, e3⟩
    · rw [decide_eq_false h2]
      obtain ⟨v1, c1, e, e1, e2, e3⟩ := spec_l1ByteF_ok n c h
      obtain ⟨v2, c2, f, f1, f2, f3⟩ := spec_l1ByteF_ok n c1 e3
      obtain ⟨v3, c3, g, g1, g2, g3⟩ := spec_l1ByteF_ok n c2 f3
      simp only [cond_false, e, f, g, Option.bind_some, hne, cond_true]
      simp (disch := omega) only [wrap64]
      obtain ⟨t1, t2⟩ := tmod_in (show 0 ≤ v1 * 65536 + v2 * 256 + v3 by omega) (show 0 < k by omega)
      exact ⟨_, _, rfl, t1, fun _ => t2, g3⟩
theorem spec_l1OnceF_ok (n : Nat) (c : Src) (k : Int) (h : c.ok) : ∃ v c', spec_l1OnceF n c k = some (v, c') ∧ c'.ok := by
  obtain ⟨v, c', e, _, _, e3⟩ := spec_l1BelowF_ok n c k h
  unfold spec_l1OnceF
  rw [e]
  exact ⟨_, _, rfl, e3⟩
theorem spec_l1IntF_ok (n : Nat) (c : Src) (xs : List Int) (h : c.ok) (hx : 0 < xs.length) : ∃ v c', spec_l1IntF n c xs = some (v, c') ∧ v ∈ xs ∧ c'.ok := by
  obtain ⟨v, c', e, e1, e2, e3⟩ := spec_l1BelowF_ok n c (xs.length : Int) h
  obtain ⟨u, hu, hm⟩ := idx_of (xs := xs) e1 (e2 (by omega))
  unfold spec_l1IntF
  simp only [e, hu, Option.bind_some]
  exact ⟨_, _, rfl, hm, e3⟩
theorem spec_l1New_L2_tot (n : Nat) (x0 : List Int) (h : x0.length ≤ 1048580) : ∀ (m k : Nat) (y : Int), k ≤ x0.length → x0.length < m + k → ∃ v, spec_l1New_L2 n m x0 k y = some (.inl v)
  | 0, k, y, h1, h2 => by omega
  | m + 1, k, y, h1, h2 => by
    rw [spec_l1New_L2]
    by_cases hk : k < x0.length
    · rw [lt_true hk, idx_nat hk, wrap_nat (by omega)]
      by_cases h4 : (k : Int) < 4000
      · rw [decide_eq_true h4]
        simp only [cond_true, Option.bind_some]
        exact spec_l1New_L2_tot n x0 h m (k + 1) _ (by omega) (by omega)
      · rw [decide_eq_false h4]
        exact ⟨_, rfl⟩
    · have he : k = x0.length := by omega
      rw [he, lt_false]
      exact ⟨_, rfl⟩
theorem spec_l1NewF_ok (n : Nat) (x0 : List Int) (h : x0.length ≤ 1048580) (hn : x0.length < n) : ∃ c, spec_l1NewF n x0 = some c ∧ c.ok := by
  obtain ⟨v, e⟩ := spec_l1New_L2_tot n x0 h n 0 (IntKind.wrap .i64 (762762 + (x0.length : Int))) (by omega) (by omega)
  unfold spec_l1NewF
  rw [show spec_l1New_L2 n n x0 0 (IntKind.wrap .i64 (762762 + (x0.length : Int))) = _ from e]
  exact ⟨_, rfl, by show (0 : Int) ≤ 0; omega, by show x0.length ≤ _; omega⟩
theorem spec_l7DrawF_ok (n : Nat) (c : Src) (h : c.ok) : ∃ v c', spec_l7DrawF n c = some (v, c') ∧ c'.ok := by
  obtain ⟨v1, c1, e1, a1, b1, h1⟩ := spec_l1BelowF_ok n c 5 h
  obtain ⟨v2, c2, e2, a2, h2⟩ := spec_l1IntF_ok n c1 [0, 1, 2, 5, 10, 100] h1 (by decide)
  obtain ⟨v3, c3, e3, a3, h3⟩ := spec_l1IntF_ok n c2 [0, 1, 2, 9, 10] h2 (by decide)
  obtain ⟨v4, c4, e4, a4, b4, h4⟩ := spec_l1BelowF_ok n c3 5 h3
  obtain ⟨v5, c5, e5, a5, b5, h5⟩ := spec_l1BelowF_ok n c4 4 h4
  unfold spec_l7DrawF
  simp only [e1, e2, e3, e4, e5, Option.bind_some]
  exact ⟨_, _, rfl, h5⟩
theorem spec_l10Draw_L2_tot (n : Nat) (p : Nat) (hp : p ≤ 1000) : ∀ (m k : Nat) (ys : List Pt) (c : Src), k ≤ p → p < m + k → ys.length = k → c.ok → ∃ (ys' : List Pt) (c' : Src), spec_l10Draw_L2 n m p k ys c.b c.i c.h = some (.inl (ys', c'.b, c'.i, c'.h)) ∧ ys'.length = p ∧ c'.ok
  | 0, k, ys, c, h1, h2, _, _ => by omega
  | m + 1, k, ys, c, h1, h2, h3, h4 => by
    rw [spec_l10Draw_L2]
    by_cases hk : k < p
    · obtain ⟨v1, c1, e1, g1⟩ := spec_l1OnceF_ok n c 4 h4
      obtain ⟨v2, c2, e2, a2, g2⟩ := spec_l1IntF_ok n c1 [1, 1, 2, 5, 10] g1 (by decide)
      obtain ⟨v3, c3, e3, g3⟩ := spec_l1OnceF_ok n c2 4 g2
      obtain ⟨v4, c4, e4, g4⟩ := spec_l7DrawF_ok n c3 g3
      have e1' : spec_l1OnceF n (⟨c.b, c.i, c.h⟩ : Src) 4 = some (v1, c1) := e1
      have hlen : ∀ u : Pt, decide (ys.length + [u].length ≤ 268435456) = true := fun u => decide_eq_true (by rw [List.length_singleton]; omega)
      have ih := fun u c' hc => spec_l10Draw_L2_tot n p hp m (k + 1) (ys ++ [u]) c' (by omega) (by omega) (by simp [h3]) hc
      simp only [lt_true hk, cond_true, e1', e2, e3, e4, Option.bind_some, spec_l10Draw_J3, hlen, wrap_nat (by omega : k ≤ 1099511627776)]
      cases v1 with
      | false =>
        simp only [Bool.not_false, cond_true]
        cases v3 with
        | false => simp only [Bool.not_false, cond_true]; exact ih _ c4 g4
        | true => simp only [Bool.not_true, cond_false]; exact ih _ c3 g3
      | true => simp only [Bool.not_true, cond_false]; exact ih _ c2 g2
    · have he : k = p := by omega
      rw [he, lt_false]
      exact ⟨ys, c, rfl, by omega, h4⟩
theorem spec_l10DrawF_ok (n : Nat) (c : Src) (p : Int) (h : c.ok) (h0 : 1 ≤ p) (h1 : p ≤ 1000) (hn : 1000 < n) : ∃ ys c', spec_l10DrawF n c p = some (ys, c') ∧ (ys.length : Int) = p ∧ c'.ok := by
  obtain ⟨ys, c', e, e1, e2⟩ := spec_l10Draw_L2_tot n p.toNat (by omega) n 0 [] c (by omega) (by omega) rfl h
  unfold spec_l10DrawF
  have hp : ((p.toNat : Nat) : Int) = p := by omega
  rw [hp] at e
  rw [show spec_l10Draw_L2 n n p 0 ([] : List Pt) c.b c.i c.h = _ from e]
  exact ⟨ys, _, rfl, by omega, e2⟩
/-- what BestVec's loop keeps -/
def BestInv (n : Nat) (x0 : Int) (x1 : List Pt) (k : Nat) (y2 y3 y4 y8 y9 : Int) : Prop :=
  ((y2 = -1 ∧ y8 = x0) ∨ (0 ≤ y2 ∧ y2 < k ∧ y3 = y8 ∧ y4 = y9 ∧ y8 < x0 ∧ ∃ v : Pt, idx x1 y2 = some v ∧ v.Up = true)) ∧
  ∀ (j : Nat) (v : Pt) (r : Vec), j < k → idx x1 (j : Int) = some v → v.Up = true → v.Has = true → spec_StepVecF n v.Heard v.Cost = some (r, true) → x0 ≤ r.Root ∨ (0 ≤ y2 ∧ (y8 < r.Root ∨ (y8 = r.Root ∧ y9 ≤ r.Cost)))
theorem BestInv.next {n : Nat} {x0 : Int} {x1 : List Pt} {k : Nat} {y2 y3 y4 y8 y9 : Int} (h : BestInv n x0 x1 k y2 y3 y4 y8 y9) (hk : ∀ v : Pt, idx x1 (k : Int) = some v → v.Up = true → v.Has = true → ∀ r : Vec, spec_StepVecF n v.Heard v.Cost = some (r, true) → x0 ≤ r.Root ∨ (0 ≤ y2 ∧ (y8 < r.Root ∨ (y8 = r.Root ∧ y9 ≤ r.Cost)))) : BestInv n x0 x1 (k + 1) y2 y3 y4 y8 y9 := by
  refine ⟨?_, fun j v r hj hv hu hh hs => ?_⟩
  · rcases h.1 with a | ⟨a, b, c⟩
    · exact .inl a
    · exact .inr ⟨a, by omega, c⟩
  · by_cases e : j = k
    · subst e; exact hk v hv hu hh r hs
    · exact h.2 j v r (by omega) hv hu hh hs
theorem spec_LessVecF_lt (n : Nat) (a b : Vec) {c : Bool} (h : spec_LessVecF n a b = some c) : (c = true → a.Root < b.Root ∨ (a.Root = b.Root ∧ a.Cost ≤ b.Cost)) ∧ (c = false → b.Root < a.Root ∨ (b.Root = a.Root ∧ b.Cost ≤ a.Cost)) := by
  unfold spec_LessVecF at h
  by_cases h1 : a.Root = b.Root
  · have e1 : (a.Root != b.Root) = false := by simp [h1]
    rw [e1, cond_false] at h
    by_cases h2 : a.Cost = b.Cost
    · exact ⟨fun _ => .inr ⟨h1, by omega⟩, fun _ => .inr ⟨h1.symm, by omega⟩⟩
    · have e2 : (a.Cost != b.Cost) = true := by simp [h2]
      rw [e2, cond_true] at h
      have h := Option.some.inj h
      refine ⟨fun hc => .inr ⟨h1, ?_⟩, fun hc => .inr ⟨h1.symm, ?_⟩⟩
      · have := of_decide_eq_true (h.trans hc); omega
      · have := of_decide_eq_false (h.trans hc); omega
  · have e1 : (a.Root != b.Root) = true := by simp [h1]
    rw [e1, cond_true] at h
    have h := Option.some.inj h
    refine ⟨fun hc => .inl (of_decide_eq_true (h.trans hc)), fun hc => .inl ?_⟩
    have := of_decide_eq_false (h.trans hc); omega
theorem spec_BestVec_L2_inv (n : Nat) (x0 : Int) (x1 : List Pt) (h : x1.length ≤ 1048576) : ∀ (m k : Nat) (y2 y3 y4 y5 y6 y7 y8 y9 y10 : Int), k ≤ x1.length → x1.length < m + k → BestInv n x0 x1 k y2 y3 y4 y8 y9 → ∃ z2 z8 z9 z10 z3 z4, spec_BestVec_L2 n m x0 x1 k y2 y3 y4 y5 y6 y7 y8 y9 y10 = some (.inl (z2, z8, z9, z10)) ∧ BestInv n x0 x1 x1.length z2 z3 z4 z8 z9
  | 0, k, y2, y3, y4, y5, y6, y7, y8, y9, y10, h1, h2, hi => by omega
  | m + 1, k, y2, y3, y4, y5, y6, y7, y8, y9, y10, h1, h2, hi => by
    rw [spec_BestVec_L2]
    by_cases hk : k < x1.length
    · have ih := fun y2 y3 y4 y5 y6 y7 y8 y9 y10 hi => spec_BestVec_L2_inv n x0 x1 h m (k + 1) y2 y3 y4 y5 y6 y7 y8 y9 y10 (by omega) (by omega) hi
      have hv := idx_nat hk
      have hg : ∀ w : Pt, idx x1 (k : Int) = some w → w = x1[k] := fun w e => Option.some.inj (e.symm.trans hv)
      simp only [lt_true hk, cond_true, hv, Option.bind_some, wrap_nat (by omega : k ≤ 1099511627776), spec_BestVec_J3]
      cases hu : x1[k].Up
      · simp only [Bool.not_false, cond_true]
        exact ih _ _ _ _ _ _ _ _ _ (hi.next fun w e u => by rw [hg w e, hu] at u; cases u)
      cases hh : x1[k].Has
      · simp only [Bool.not_false, Bool.not_true, cond_true, cond_false]
        exact ih _ _ _ _ _ _ _ _ _ (hi.next fun w e _ u => by rw [hg w e, hh] at u; cases u)
      obtain ⟨⟨r, ok⟩, hr⟩ := spec_StepVecF_tot n x1[k].Heard x1[k].Cost
      simp only [Bool.not_true, cond_false, hr, Option.bind_some]
      have hrr : ∀ w : Pt, idx x1 (k : Int) = some w → ∀ q : Vec, spec_StepVecF n w.Heard w.Cost = some (q, true) → q = r ∧ ok = true := fun w e q hq => by
        rw [hg w e, hr] at hq; cases hq; exact ⟨rfl, rfl⟩
      cases ok
      · simp only [cond_false]
        exact ih _ _ _ _ _ _ _ _ _ (hi.next fun w e _ _ q hq => by cases (hrr w e q hq).2)
      simp only [cond_true]
      by_cases hl : r.Root < x0
      · rw [decide_eq_true hl, cond_true]
        have hnew : (∀ (j : Nat) (v : Pt) (q : Vec), j < k → idx x1 (j : Int) = some v → v.Up = true → v.Has = true → spec_StepVecF n v.Heard v.Cost = some (q, true) → x0 ≤ q.Root ∨ (r.Root < q.Root ∨ (r.Root = q.Root ∧ r.Cost ≤ q.Cost))) → BestInv n x0 x1 (k + 1) k r.Root r.Cost r.Root r.Cost := fun ho => by
          refine ⟨.inr ⟨by omega, by omega, rfl, rfl, hl, _, hv, hu⟩, fun j v q hj e1 e2 e3 e4 => ?_⟩
          by_cases e : j = k
          · subst e; rw [(hrr v e1 q e4).1]; exact .inr ⟨by omega, .inr ⟨rfl, by omega⟩⟩
          · rcases ho j v q (by omega) e1 e2 e3 e4 with a | a
            · exact .inl a
            · exact .inr ⟨by omega, a⟩
        by_cases hp : y2 < 0
        · rw [decide_eq_true hp, cond_true]
          refine ih _ _ _ _ _ _ _ _ _ (hnew fun j v q e0 e1 e2 e3 e4 => ?_)
          rcases hi.2 j v q e0 e1 e2 e3 e4 with a | ⟨a, _⟩
          · exact .inl a
          · omega
        · rw [decide_eq_false hp, cond_false]
          obtain ⟨b, hb⟩ := spec_LessVecF_tot n r (⟨y3, y4, y5, y6, y7⟩ : Vec)
          have hlt := spec_LessVecF_lt n _ _ hb
          simp only [hb, Option.bind_some]
          rcases hi.1 with ⟨a, _⟩ | ⟨a1, a2, a3, a4, a5, a6⟩
          · omega
          subst a3 a4
          cases b
          · simp only [cond_false]
            refine ih _ _ _ _ _ _ _ _ _ (hi.next fun w e _ _ q hq => ?_)
            rw [(hrr w e q hq).1]
            exact .inr ⟨a1, hlt.2 rfl⟩
          · simp only [cond_true]
            refine ih _ _ _ _ _ _ _ _ _ (hnew fun j v q e0 e1 e2 e3 e4 => ?_)
            have hc := hlt.1 rfl
            simp only at hc
            rcases hi.2 j v q e0 e1 e2 e3 e4 with a | ⟨_, a⟩
            · exact .inl a
            · refine .inr ?_
              rcases a with a | ⟨a, a'⟩ <;> rcases hc with b | ⟨b, b'⟩
              · exact .inl (by omega)
              · exact .inl (by omega)
              · exact .inl (by omega)
              · exact .inr ⟨by omega, by omega⟩
      · rw [decide_eq_false hl, cond_false]
        exact ih _ _ _ _ _ _ _ _ _ (hi.next fun w e _ _ q hq => .inl (by rw [(hrr w e q hq).1]; omega))
    · have : k = x1.length := by omega
      subst this
      rw [lt_false, cond_false]
      exact ⟨_, _, _, _, _, _, rfl, hi⟩
theorem spec_BestVecF_inv (n : Nat) (x0 : Int) (x1 : List Pt) (h : x1.length ≤ 1048576) (hn : x1.length < n) : ∃ p a b c y3 y4, spec_BestVecF n x0 x1 = some ((⟨a, b, c, x0, 0⟩ : Vec), p) ∧ BestInv n x0 x1 x1.length p y3 y4 a b := by
  obtain ⟨z2, z8, z9, z10, z3, z4, e, i⟩ := spec_BestVec_L2_inv n x0 x1 h n 0 (-1) 0 0 0 0 0 x0 0 0 (by omega) (by omega) ⟨.inl ⟨rfl, rfl⟩, fun j _ _ hj => by omega⟩
  refine ⟨z2, z8, z9, z10, z3, z4, ?_, i⟩
  have e : spec_BestVec_L2 n n x0 x1 0 (-1) 0 0 0 0 0 x0 0 0 = some (.inl (z2, z8, z9, z10)) := e
  unfold spec_BestVecF
  rw [e]
  rfl
/-- what a port is for, of a port that is there -/
theorem spec_RoleOfF_at (n : Nat) (x0 : Int) (x1 : List Pt) (k : Nat) (h : x1.length ≤ 1048576) (hn : x1.length < n) (hk : k < x1.length) {b : Vec} {p : Int} (hb : spec_BestVecF n x0 x1 = some (b, p)) : ∃ r, spec_RoleOfF n x0 x1 k = some r ∧ 1 ≤ r ∧ r ≤ 4 ∧ (r = 4 ↔ x1[k].Up = false) ∧ (r = 1 ↔ (x1[k].Up = true ∧ p = k)) := by
  unfold spec_RoleOfF spec_l1InF
  rw [wrap64 (by omega) (by omega)]
  obtain ⟨s, hs⟩ := spec_SayVecF_tot n x0 x1 k h hn
  obtain ⟨l, hl⟩ := spec_LessVecF_tot n s x1[k].Heard
  simp only [decide_eq_true (show (k : Int) ≥ 0 by omega), decide_eq_true (show (k : Int) ≤ (x1.length : Int) - 1 by omega), cond_true, Option.bind_some, Bool.not_true, cond_false, idx_nat hk, hb, hs, hl]
  cases hu : x1[k].Up
  · exact ⟨4, rfl, by decide, by decide, by simp, by simp⟩
  · by_cases hp : p = k
    · have : (p == (k : Int)) = true := by simp [hp]
      rw [this]
      exact ⟨1, rfl, by decide, by decide, by simp, by simp [hp]⟩
    · have : (p == (k : Int)) = false := by simp [hp]
      rw [this]
      cases x1[k].Has <;> cases l <;> exact ⟨_, rfl, by decide, by decide, by simp, by simp [hp]⟩
theorem small_or : ∀ k < 6, ∀ a < 64, IntKind.wrap .i64 (BitVec.ofInt (IntKind.bits .i64) (a : Nat) ||| BitVec.ofInt (IntKind.bits .i64) (IntKind.wrap .i64 (1 * 2 ^ min ((k : Nat) : Int).toNat (IntKind.bits .i64)))).toNat = ((a ||| 2 ^ k : Nat) : Int) := by decide +kernel
theorem small_bit : ∀ i < 6, ∀ a < 64, (IntKind.wrap .i64 (BitVec.ofInt (IntKind.bits .i64) (Int.fdiv ((a : Nat) : Int) (2 ^ min ((IntKind.wrap .u64 ((i : Nat) : Int)) : Int).toNat (IntKind.bits .i64))) &&& BitVec.ofInt (IntKind.bits .i64) 1).toNat == 1) = a.testBit i := by decide +kernel
/-- the bits of the ports that send -/
theorem impl_Sends_L2_bits (n : Nat) (x0 : Int) (x1 : List Pt) (h : x1.length ≤ 6) (hn : x1.length < n) : ∀ (m k a : Nat), k ≤ x1.length → x1.length < m + k → a < 2 ^ k → (∀ j < k, ∃ r, spec_RoleOfF n x0 x1 (j : Nat) = some r ∧ (a.testBit j = true ↔ r ≤ 2)) → ∃ b : Nat, impl_Sends_L2 n m x0 x1 k a = some (.inl (b : Int)) ∧ b < 64 ∧ ∀ j < x1.length, ∃ r, spec_RoleOfF n x0 x1 (j : Nat) = some r ∧ (b.testBit j = true ↔ r ≤ 2)
  | 0, k, a, h1, h2, h3, h4 => by omega
  | m + 1, k, a, h1, h2, h3, h4 => by
    have hp : a < 64 := Nat.lt_of_lt_of_le h3 (Nat.pow_le_pow_right (by decide) (show k ≤ 6 by omega))
    rw [impl_Sends_L2]
    by_cases hk : k < x1.length
    · obtain ⟨r, hr, r1, r2⟩ := spec_RoleOfF_ok n x0 x1 k (by omega) hn
      have h0 : decide ((0 : Int) ≤ (k : Int)) = true := decide_eq_true (by omega)
      have h6 : decide ((k : Int) < 6) = true := decide_eq_true (by omega)
      simp only [lt_true hk, h6, h0, cond_true, wrap_nat (by omega : k ≤ 1099511627776), impl_RoleOfF_eq, hr, Option.bind_some, small_or k (by omega) a hp]
      have no : a.testBit k = false := Nat.testBit_lt_two_pow h3
      have ihy := impl_Sends_L2_bits n x0 x1 h hn m (k + 1) (a ||| 2 ^ k) (by omega) (by omega) (Nat.or_lt_two_pow (Nat.lt_of_lt_of_le h3 (Nat.pow_le_pow_right (by decide) (by omega))) (Nat.pow_lt_pow_right (by decide) (by omega)))
      have ihn := impl_Sends_L2_bits n x0 x1 h hn m (k + 1) a (by omega) (by omega) (Nat.lt_of_lt_of_le h3 (Nat.pow_le_pow_right (by decide) (by omega)))
      have yes : r ≤ 2 → ∀ j < k + 1, ∃ r, spec_RoleOfF n x0 x1 (j : Nat) = some r ∧ ((a ||| 2 ^ k).testBit j = true ↔ r ≤ 2) := fun hr2 j hj => by
        rw [Nat.testBit_or, Nat.testBit_two_pow]
        by_cases e : j = k
        · subst e; exact ⟨r, hr, by simp [hr2]⟩
        · obtain ⟨q, hq, hb⟩ := h4 j (by omega)
          exact ⟨q, hq, by rw [decide_eq_false (by omega), Bool.or_false]; exact hb⟩
      have non : ¬ r ≤ 2 → ∀ j < k + 1, ∃ r, spec_RoleOfF n x0 x1 (j : Nat) = some r ∧ (a.testBit j = true ↔ r ≤ 2) := fun hr2 j hj => by
        by_cases e : j = k
        · subst e; exact ⟨r, hr, by simp [no, hr2]⟩
        · exact h4 j (by omega)
      have hc : r = 1 ∨ r = 2 ∨ r = 3 ∨ r = 4 := by omega
      rcases hc with e | e | e | e
      · rw [e]; exact ihy (yes (by omega))
      · rw [e]; exact ihy (yes (by omega))
      · rw [e]; exact ihn (non (by omega))
      · rw [e]; exact ihn (non (by omega))
    · have e : k = x1.length := by omega
      subst e
      rw [lt_false, cond_false]
      exact ⟨a, rfl, hp, h4⟩
theorem impl_SendsF_bits (n : Nat) (x0 : Int) (x1 : List Pt) (h : x1.length ≤ 6) (hn : x1.length < n) : ∃ b : Nat, impl_SendsF n x0 x1 = some (b : Int) ∧ b < 64 ∧ ∀ j < x1.length, ∃ r, spec_RoleOfF n x0 x1 (j : Nat) = some r ∧ (b.testBit j = true ↔ r ≤ 2) := by
  obtain ⟨b, e, b1, b2⟩ := impl_Sends_L2_bits n x0 x1 h hn n 0 0 (by omega) (by omega) (by decide) (fun j hj => by omega)
  have e : impl_Sends_L2 n n x0 x1 0 0 = some (.inl (b : Int)) := e
  exact ⟨b, by unfold impl_SendsF; rw [e]; rfl, b1, b2⟩
theorem laws_bitF_val (n : Nat) (i a : Nat) (hi : i < 6) (ha : a < 64) : laws_bitF n (a : Int) (i : Int) = some (a.testBit i) := by
  unfold laws_bitF
  have hu : decide ((0 : Int) ≤ IntKind.wrap .u64 ((i : Nat) : Int)) = true := by rw [wrapU (by omega)]; exact decide_eq_true (by omega)
  simp only [decide_eq_true (show (i : Int) ≥ 0 by omega), decide_eq_true (show (i : Int) < 8 by omega), hu, cond_true]
  exact congrArg some (small_bit i hi a ha)
theorem laws_FnRoles_L2_ok (n : Nat) (id : Int) (l : List Pt) (h : l.length ≤ 6) (hn : l.length < n) (v : Vec) (p y3 y4 : Int) (hb : spec_BestVecF n id l = some (v, p)) (hi : BestInv n id l l.length p y3 y4 v.Root v.Cost) (s : Nat) (hs : impl_SendsF n id l = some (s : Int)) (hs6 : s < 64) (hbits : ∀ j < l.length, ∃ r, spec_RoleOfF n id l (j : Nat) = some r ∧ (s.testBit j = true ↔ r ≤ 2)) : ∀ (m k : Nat) (y : Int), k ≤ l.length → l.length < m + k → y = (if 0 ≤ p ∧ p < k then 1 else 0) → laws_FnRoles_L2 n m (id, l) (v, p) k y = some (.inl (if 0 ≤ p ∧ p < l.length then 1 else 0))
  | 0, k, y, h1, h2, hy => by omega
  | m + 1, k, y, h1, h2, hy => by
    rw [laws_FnRoles_L2]
    by_cases hk : k < l.length
    · obtain ⟨r, hr, r1, r2, r4, r1'⟩ := spec_RoleOfF_at n id l k (by omega) hn hk hb
      have ih := fun y hy => laws_FnRoles_L2_ok n id l h hn v p y3 y4 hb hi s hs hs6 hbits m (k + 1) y (by omega) (by omega) hy
      obtain ⟨q, hq, hbit⟩ := hbits k hk
      have hq : q = r := Option.some.inj (hq.symm.trans hr)
      subst hq
      obtain ⟨⟨x, ok⟩, hx⟩ := spec_StepVecF_tot n l[k].Heard l[k].Cost
      have hj4 : ∀ (z : Int) b1 b2 b3 b4 b5 b6 b7, z = (if 0 ≤ p ∧ p < ((k + 1 : Nat) : Int) then 1 else 0) → laws_FnRoles_J4 n (fun v_1 => laws_FnRoles_L2 n m (id, l) (v, p) v_1.1 v_1.2) (id, l) (v, p) z k b1 b2 b3 b4 b5 b6 b7 = some (.inl (if 0 ≤ p ∧ p < l.length then 1 else 0)) := fun z b1 b2 b3 b4 b5 b6 b7 hz => by
        unfold laws_FnRoles_J4
        simp only [idx_nat hk, Option.bind_some, impl_StepVecF_eq, hx, wrap_nat (by omega : k ≤ 1099511627776)]
        cases hu : l[k].Up
        · exact ih _ hz
        cases hh : l[k].Has
        · exact ih _ hz
        cases ok
        · exact ih _ hz
        simp only [cond_true]
        have hbest := hi.2 k _ _ hk (idx_nat hk) hu hh hx
        have hn1 : ¬ x.Root < v.Root := fun hlt => by
          rcases hbest with a | ⟨_, a | ⟨a, _⟩⟩
          · rcases hi.1 with ⟨_, b⟩ | ⟨_, _, _, _, b, _⟩ <;> omega
          · omega
          · omega
        rw [decide_eq_false hn1, cond_false]
        by_cases e : x.Root = v.Root
        · have e' : (x.Root == v.Root) = true := by simp [e]
          rw [e', cond_true]
          by_cases hc : x.Cost < v.Cost
          · rw [decide_eq_true hc, cond_true]
            have : ¬ x.Root < id := fun hlt => by
              rcases hbest with a | ⟨_, a | ⟨_, a⟩⟩ <;> omega
            rw [decide_eq_false this, cond_false]
            exact ih _ hz
          · rw [decide_eq_false hc, cond_false]
            exact ih _ hz
        · have e' : (x.Root == v.Root) = false := by simp [e]
          rw [e', cond_false]
          exact ih _ hz
      have hj3 : ∀ (b : Bool) (z : Int), z = (if 0 ≤ p ∧ p < ((k + 1 : Nat) : Int) then 1 else 0) → laws_FnRoles_J3 n (fun v_1 => laws_FnRoles_L2 n m (id, l) (v, p) v_1.1 v_1.2) (id, l) (v, p) q k b z = some (.inl (if 0 ≤ p ∧ p < l.length then 1 else 0)) := fun b z hz => by
        unfold laws_FnRoles_J3
        simp only [hr, Option.bind_some, idx_nat hk, bne_self_eq_false, cond_false, hs, laws_bitF_val n k s (by omega) hs6]
        have hup : ((q == 4) == l[k].Up) = false := by
          cases hu : l[k].Up
          · simp [r4.2 hu]
          · have : q ≠ 4 := fun e => by rw [r4.1 e] at hu; cases hu
            simp [this]
        rw [hup, cond_false]
        have hc : q = 1 ∨ q = 2 ∨ q = 3 ∨ q = 4 := by omega
        rcases hc with e | e | e | e
        · have ht : s.testBit k = true := hbit.2 (by omega)
          rw [ht, e]; simp only [show ((1 : Int) == 1) = true from rfl, beq_self_eq_true, Bool.not_true, cond_true, cond_false]; exact hj4 _ _ _ _ _ _ _ _ hz
        · have ht : s.testBit k = true := hbit.2 (by omega)
          rw [ht, e]; simp only [show ((2 : Int) == 1) = false from rfl, beq_self_eq_true, Bool.not_true, cond_false]; exact hj4 _ _ _ _ _ _ _ _ hz
        · have ht : s.testBit k = false := by cases hx : s.testBit k; rfl; have := hbit.1 hx; omega
          rw [ht, e]; simp only [show ((3 : Int) == 1) = false from rfl, show ((3 : Int) == 2) = false from rfl, beq_self_eq_true, Bool.not_true, cond_false]; exact hj4 _ _ _ _ _ _ _ _ hz
        · have ht : s.testBit k = false := by cases hx : s.testBit k; rfl; have := hbit.1 hx; omega
          rw [ht, e]; simp only [show ((4 : Int) == 1) = false from rfl, show ((4 : Int) == 2) = false from rfl, beq_self_eq_true, Bool.not_true, cond_false]; exact hj4 _ _ _ _ _ _ _ _ hz
      simp only [lt_true hk, cond_true, impl_RoleOfF_eq, hr, Option.bind_some]
      by_cases e : q = 1
      · have e' : (q == 1) = true := by simp [e]
        have hp := (r1'.1 e).2
        rw [e', cond_true]
        refine hj3 _ _ ?_
        rw [hy, if_neg (by omega), if_pos (by omega)]; rfl
      · have e' : (q == 1) = false := by simp [e]
        rw [e', cond_false]
        refine hj3 _ _ ?_
        rw [hy]
        by_cases hpk : p = k
        · exfalso
          rcases hi.1 with ⟨a, _⟩ | ⟨_, _, _, _, _, w, hw, hu⟩
          · omega
          · rw [hpk, idx_nat hk] at hw; cases hw; exact e (r1'.2 ⟨hu, hpk⟩)
        · by_cases hc : 0 ≤ p ∧ p < (k : Int)
          · rw [if_pos hc, if_pos (by omega)]
          · rw [if_neg hc, if_neg (by omega)]
    · have e : k = l.length := by omega
      subst e
      simp only [lt_false, cond_false]
      rw [hy]
theorem laws_FnRoles_plain (x0 : List Int) (w0 : listWf byteWf x0) : ∃ n, laws_FnRolesF n x0 = some true := by
  refine ⟨1048580, ?_⟩
  simp only [laws_FnRolesF, laws_bigF, Option.bind_some]
  by_cases hb : (x0.length : Int) > 1048576
  · rw [decide_eq_true hb]; rfl
  · rw [decide_eq_false hb]
    obtain ⟨c, e, g⟩ := spec_l1NewF_ok 1048580 x0 (by omega) (by omega)
    obtain ⟨v1, c1, e1, a1, b1, g1⟩ := spec_l1BelowF_ok 1048580 c 6 g
    obtain ⟨v2, c2, e2, a2, b2, g2⟩ := spec_l1BelowF_ok 1048580 c1 5 g1
    have b1 := b1 (by decide)
    have b2 := b2 (by decide)
    obtain ⟨ys, c3, e3, a3, g3⟩ := spec_l10DrawF_ok 1048580 c2 (1 + v2) g2 (by omega) (by omega) (by omega)
    have d1 : spec_DrawPortsF 1048580 x0 = some (1 + v1, ys) := by
      simp only [spec_DrawPortsF, e, e1, e2, Option.bind_some, wrap64 (show -9223372036854775808 ≤ 1 + v1 by omega) (by omega), wrap64 (show -9223372036854775808 ≤ 1 + v2 by omega) (by omega), e3]
    have hl : ys.length ≤ 6 := by omega
    obtain ⟨p, a, b, cc, y3, y4, hbest, hi⟩ := spec_BestVecF_inv 1048580 (1 + v1) ys (by omega) (by omega)
    obtain ⟨s, hs, s1, s2⟩ := impl_SendsF_bits 1048580 (1 + v1) ys hl (by omega)
    have hloop := laws_FnRoles_L2_ok 1048580 (1 + v1) ys hl (by omega) _ p y3 y4 hbest hi s hs s1 s2 1048580 0 0 (by omega) (by omega) (by rw [if_neg (by omega)])
    have hloop : laws_FnRoles_L2 1048580 1048580 (1 + v1, ys) ((⟨a, b, cc, 1 + v1, 0⟩ : Vec), p) 0 0 = some (.inl (if 0 ≤ p ∧ p < ys.length then 1 else 0)) := hloop
    simp only [cond_false, d1, Option.bind_some, impl_BestVecF_eq, hbest, hloop, laws_FnRoles_J1, beq_self_eq_true, cond_true]
    rcases hi.1 with ⟨i1, i2⟩ | ⟨i1, i2, _, _, i5, _⟩
    · rw [if_neg (by omega), i1, i2, decide_eq_true (by omega)]
      simp
    · have x1 : (a == 1 + v1) = false := by simp; omega
      have x2 : (p == -1) = false := by simp; omega
      rw [if_pos ⟨i1, i2⟩, decide_eq_true (by omega), x1, x2, decide_eq_true (show p ≥ 0 by omega)]
      rfl
end Go.Proofs.Ytnhmckiejhbmcaa.Tw
