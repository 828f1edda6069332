/- What the functions answer, on plain data. -/
import Derived.Test.YtgpcfaiacggoiaaTwRB
import Derived.Test.YtgpcfaiacggoiaaTlPlain
set_option linter.unusedVariables false
set_option linter.unusedSimpArgs false
set_option maxRecDepth 100000
set_option maxHeartbeats 1000000
namespace Go.Proofs.Ytgpcfaiacggoiaa.Tw
open Go Go.TL Go.Proofs
theorem spec_l1InF_tot (n : Nat) (a b c : Int) : Tot (spec_l1InF n a b c) := Tot.bif (fun _ => .of) (fun _ => .of)
theorem impl_VecOkF_eq (n : Nat) : impl_VecOkF n = spec_VecOkF n := rfl
theorem spec_VecOkF_tot (n : Nat) (v : Vec) : Tot (spec_VecOkF n v) := by
  unfold spec_VecOkF
  repeat' first | exact Tot.of | refine Tot.bind (spec_l1InF_tot _ _ _ _) fun _ _ => ?_ | refine Tot.bif (fun _ => ?_) (fun _ => ?_)
theorem impl_StepVecF_eq (n : Nat) : impl_StepVecF n = spec_StepVecF n := rfl
theorem spec_StepVecF_tot (n : Nat) (v : Vec) (c : Int) : Tot (spec_StepVecF n v c) := by
  unfold spec_StepVecF
  repeat' first | exact Tot.of | refine Tot.bind (spec_l1InF_tot _ _ _ _) fun _ _ => ?_ | refine Tot.bind (spec_VecOkF_tot _ _) fun _ _ => ?_ | refine Tot.bif (fun _ => ?_) (fun _ => ?_)
theorem impl_LessVecF_eq (n : Nat) : impl_LessVecF n = spec_LessVecF n := rfl
theorem spec_LessVecF_tot (n : Nat) (v u : Vec) : Tot (spec_LessVecF n v u) := by
  unfold spec_LessVecF
  repeat' first | exact Tot.of | refine Tot.bif (fun _ => ?_) (fun _ => ?_)
theorem spec_BestVec_L2_tot (n : Nat) (x0 : Int) (x1 : List Pt) (h : x1.length ≤ 1048576) : ∀ (m k : Nat) (y2 y3 y4 y5 y6 y7 y8 y9 y10 : Int), k ≤ x1.length → x1.length < m + k → Tot (spec_BestVec_L2 n m x0 x1 k y2 y3 y4 y5 y6 y7 y8 y9 y10)
  | 0, k, y2, y3, y4, y5, y6, y7, y8, y9, y10, h1, h2 => by omega
  | m + 1, k, y2, y3, y4, y5, y6, y7, y8, y9, y10, h1, h2 => by
    rw [spec_BestVec_L2]
    refine Tot.step (fun hk => ?_) .of
    have ih := fun y2 y3 y4 y5 y6 y7 y8 y9 y10 => spec_BestVec_L2_tot n x0 x1 h m (k + 1) y2 y3 y4 y5 y6 y7 y8 y9 y10 (by omega) (by omega)
    simp only [spec_BestVec_J3, wrap_nat (by omega : k ≤ 1099511627776)]
    repeat' first | exact ih _ _ _ _ _ _ _ _ _ | exact Tot.of | refine Tot.bind (idx_tot hk) fun _ _ => ?_ | refine Tot.bind (spec_StepVecF_tot _ _ _) fun _ _ => ?_ | refine Tot.bind (spec_LessVecF_tot _ _ _) fun _ _ => ?_ | refine Tot.bif (fun _ => ?_) (fun _ => ?_)
theorem spec_BestVecF_tot (n : Nat) (x0 : Int) (x1 : List Pt) (h : x1.length ≤ 1048576) (hn : x1.length < n) : Tot (spec_BestVecF n x0 x1) := by
  unfold spec_BestVecF
  refine Tot.bind (spec_BestVec_L2_tot n x0 x1 h n 0 _ _ _ _ _ _ _ _ _ (by omega) (by omega)) fun o _ => ?_
  cases o <;> exact Tot.of
theorem impl_BestVec_L2_eq (n : Nat) : impl_BestVec_L2 n = spec_BestVec_L2 n := by
  funext m
  induction m with
  | zero => rfl
  | succ m ih =>
    funext x0 x1 y1 y2 y3 y4 y5 y6 y7 y8 y9 y10
    simp only [impl_BestVec_L2, spec_BestVec_L2, ih, impl_BestVec_J3, spec_BestVec_J3, impl_StepVecF_eq, impl_LessVecF_eq]
    cases idx x1 y1 <;> rfl
theorem impl_BestVecF_eq (n : Nat) : impl_BestVecF n = spec_BestVecF n := by
  funext x i; simp only [impl_BestVecF, spec_BestVecF, impl_BestVec_L2_eq]; rfl
theorem impl_SayVecF_eq (n : Nat) : impl_SayVecF n = spec_SayVecF n := by
  funext x i y; simp only [impl_SayVecF, spec_SayVecF, impl_BestVecF_eq]
theorem spec_SayVecF_tot (n : Nat) (x0 : Int) (x1 : List Pt) (x2 : Int) (h : x1.length ≤ 1048576) (hn : x1.length < n) : Tot (spec_SayVecF n x0 x1 x2) := Tot.bind (spec_BestVecF_tot n x0 x1 h hn) fun _ _ => .of
theorem impl_RoleOfF_eq (n : Nat) : impl_RoleOfF n = spec_RoleOfF n := by
  funext x i y; simp only [impl_RoleOfF, spec_RoleOfF, impl_BestVecF_eq, impl_SayVecF_eq, impl_LessVecF_eq]; rfl
theorem spec_RoleOfF_ok (n : Nat) (x0 : Int) (x1 : List Pt) (x2 : Int) (h : x1.length ≤ 1048576) (hn : x1.length < n) : ∃ r, spec_RoleOfF n x0 x1 x2 = some r ∧ 1 ≤ r ∧ r ≤ 4 := by
  unfold spec_RoleOfF spec_l1InF
  rw [wrap64 (by omega) (by omega)]
  obtain ⟨b, hb⟩ := spec_BestVecF_tot n x0 x1 h hn
  obtain ⟨s, hs⟩ := spec_SayVecF_tot n x0 x1 x2 h hn
  by_cases h1 : x2 ≥ 0
  · by_cases h2 : x2 ≤ (x1.length : Int) - 1
    · obtain ⟨v, hv, _⟩ := idx_of (xs := x1) h1 (by omega)
      obtain ⟨l, hl⟩ := spec_LessVecF_tot n s v.Heard
      simp only [decide_eq_true h1, decide_eq_true h2, cond_true, Option.bind_some, Bool.not_true, cond_false, hb, hs, hv, hl]
      cases v.Up <;> cases (b.2 == x2) <;> cases v.Has <;> cases l <;> exact ⟨_, rfl, by decide, by decide⟩
    · simp only [decide_eq_true h1, decide_eq_false h2, cond_true, Option.bind_some, Bool.not_false]
      exact ⟨_, rfl, by decide, by decide⟩
  · simp only [decide_eq_false h1, cond_false, Option.bind_some, Bool.not_false, cond_true]
    exact ⟨_, rfl, by decide, by decide⟩
theorem wrapU {k : Nat} (h : k ≤ 1099511627776) : IntKind.wrap .u64 (k : Int) = k := by
  show ((k : Int) % 18446744073709551616) = k
  omega
theorem spec_Sends_L2_both (n : Nat) (x0 : Int) (x1 : List Pt) (h : x1.length ≤ 1048576) (hn : x1.length < n) : ∀ (m k : Nat) (y2 : Int), k ≤ x1.length → x1.length < m + k → impl_Sends_L2 n m x0 x1 k y2 = spec_Sends_L2 n m x0 x1 k y2 ∧ Tot (spec_Sends_L2 n m x0 x1 k y2)
  | 0, k, y2, h1, h2 => by omega
  | m + 1, k, y2, h1, h2 => by
    rw [spec_Sends_L2, impl_Sends_L2]
    by_cases hk : k < x1.length
    · have ih := fun y2 => spec_Sends_L2_both n x0 x1 h hn m (k + 1) y2 (by omega) (by omega)
      obtain ⟨r, hr, r1, r2⟩ := spec_RoleOfF_ok n x0 x1 k h hn
      have hk' : decide ((k : Int) < (x1.length : Int)) = true := decide_eq_true (by omega)
      have h0 : decide ((0 : Int) ≤ (k : Int)) = true := decide_eq_true (by omega)
      simp only [hk', wrap_nat (by omega : k ≤ 1099511627776), wrapU (by omega : k ≤ 1099511627776), impl_RoleOfF_eq, hr, Option.bind_some, h0, cond_true, (ih _).1, true_and]
      have hc : r = 1 ∨ r = 2 ∨ r = 3 ∨ r = 4 := by omega
      rcases hc with rfl | rfl | rfl | rfl <;> cases (decide ((k : Int) < 6)) <;> first | exact ⟨rfl, (ih _).2⟩ | exact ⟨by trivial, Tot.of⟩
    · have hk' : decide ((k : Int) < (x1.length : Int)) = false := decide_eq_false (by omega)
      rw [hk']
      exact ⟨by trivial, Tot.of⟩
theorem spec_SendsF_both (n : Nat) (x0 : Int) (x1 : List Pt) (h : x1.length ≤ 1048576) (hn : x1.length < n) : impl_SendsF n x0 x1 = spec_SendsF n x0 x1 ∧ Tot (spec_SendsF n x0 x1) := by
  obtain ⟨h1, o, h2⟩ := spec_Sends_L2_both n x0 x1 h hn n 0 0 (by omega) (by omega)
  unfold impl_SendsF spec_SendsF
  have e1 : impl_Sends_L2 n n x0 x1 0 0 = some o := h1.trans h2
  have e2 : spec_Sends_L2 n n x0 x1 0 0 = some o := h2
  rw [e1, e2]
  cases o <;> exact ⟨by trivial, Tot.of⟩
theorem impl_inF_eq (n : Nat) : impl_inF n = spec_l1InF n := rfl
theorem spec_l1InF_val (n : Nat) (a b c : Int) : spec_l1InF n a b c = some (decide (b ≤ a) && decide (a ≤ c)) := by
  unfold spec_l1InF
  by_cases h : a ≥ b
  · rw [decide_eq_true h]; rfl
  · rw [decide_eq_false h]; rfl
theorem listWf_sub {α : Type} {wf : α → Prop} {xs ys : List α} (h : listWf wf xs) (hs : ∀ y ∈ ys, y ∈ xs) (hl : ys.length ≤ xs.length) : listWf wf ys := ⟨Nat.le_trans hl h.1, fun y hy => h.2 y (hs y hy)⟩
theorem listWf_set {α : Type} {wf : α → Prop} {xs : List α} {i : Nat} {v : α} (h : listWf wf xs) (hv : wf v) : listWf wf (xs.set i v) := ⟨by rw [List.length_set]; exact h.1, fun y hy => by
  rcases List.mem_or_eq_of_mem_set hy with h1 | h1
  · exact h.2 y h1
  · rw [h1]; exact hv⟩
theorem impl_PtOkF_eq (n : Nat) : impl_PtOkF n = spec_PtOkF n := by
  funext v
  unfold impl_PtOkF spec_PtOkF
  rw [impl_inF_eq, impl_VecOkF_eq]
  obtain ⟨b, hb⟩ := spec_l1InF_tot n v.Cost 1 1000
  rw [hb]
  cases b <;> cases v.Up <;> cases v.Has <;> rfl
theorem spec_PtOkF_tot (n : Nat) (v : Pt) : Tot (spec_PtOkF n v) := by
  unfold spec_PtOkF
  repeat' first | exact Tot.of | refine Tot.bind (spec_l1InF_tot _ _ _ _) fun _ _ => ?_ | refine Tot.bind (spec_VecOkF_tot _ _) fun _ _ => ?_ | refine Tot.bif (fun _ => ?_) (fun _ => ?_)
def Src.ok (c : Src) : Prop := 0 ≤ c.i ∧ c.b.length ≤ 1099511627776
theorem and255 (z : Int) : ∃ v : Int, (IntKind.wrap .i64 (BitVec.ofInt (IntKind.bits .i64) z &&& BitVec.ofInt (IntKind.bits .i64) 255).toNat) = v ∧ 0 ≤ v ∧ v ≤ 255 := by
  have h : (BitVec.ofInt 64 z &&& BitVec.ofInt 64 255).toNat ≤ 255 := by
    rw [BitVec.toNat_and]
    exact Nat.le_trans Nat.and_le_right (by decide)
  refine ⟨((BitVec.ofInt 64 z &&& BitVec.ofInt 64 255).toNat : Int), ?_, by omega, by omega⟩
  exact wrap64 (z := ((BitVec.ofInt 64 z &&& BitVec.ofInt 64 255).toNat : Int)) (by omega) (by omega)
theorem spec_l1ByteF_ok (n : Nat) (c : Src) (h : c.ok) : ∃ v c', spec_l1ByteF n c = some (v, c') ∧ 0 ≤ v ∧ v ≤ 255 ∧ c'.ok := by
  unfold spec_l1ByteF
  rw [show decide ((0 : Int) ≤ 33) = true from rfl, show decide ((0 : Int) ≤ 47) = true from rfl]
  simp only [cond_true]
  by_cases hi : c.i < (c.b.length : Int)
  · obtain ⟨v, hv, _⟩ := idx_of (xs := c.b) h.1 hi
    rw [decide_eq_true hi, hv, wrap64 (z := c.i + 1) (by have := h.1; omega) (by have := h.2; omega)]
    obtain ⟨w, e, e1, e2⟩ := and255 (IntKind.wrap .i64 ((IntKind.wrap .i64 (BitVec.ofInt (IntKind.bits .i64) (IntKind.wrap .i64 (BitVec.ofInt (IntKind.bits .i64) (Int.fdiv (IntKind.wrap .i64 ((IntKind.wrap .i64 (c.h * 6364136223846793005)) + 1442695040888963407)) (2 ^ min ((33 : Int)).toNat (IntKind.bits .i64))) ^^^ BitVec.ofInt (IntKind.bits .i64) (Int.fdiv (IntKind.wrap .i64 ((IntKind.wrap .i64 (c.h * 6364136223846793005)) + 1442695040888963407)) (2 ^ min ((47 : Int)).toNat (IntKind.bits .i64)))).toNat) &&& BitVec.ofInt (IntKind.bits .i64) 255).toNat) + (IntKind.wrap .i64 v)))
    simp only [cond_true, Option.bind_some]
    exact ⟨_, _, rfl, by rw [e]; exact e1, by rw [e]; exact e2, by have := h.1; show 0 ≤ c.i + 1; omega, h.2⟩
  · rw [decide_eq_false hi]
    obtain ⟨w, e, e1, e2⟩ := and255 (IntKind.wrap .i64 (BitVec.ofInt (IntKind.bits .i64) (Int.fdiv (IntKind.wrap .i64 ((IntKind.wrap .i64 (c.h * 6364136223846793005)) + 1442695040888963407)) (2 ^ min ((33 : Int)).toNat (IntKind.bits .i64))) ^^^ BitVec.ofInt (IntKind.bits .i64) (Int.fdiv (IntKind.wrap .i64 ((IntKind.wrap .i64 (c.h * 6364136223846793005)) + 1442695040888963407)) (2 ^ min ((47 : Int)).toNat (IntKind.bits .i64)))).toNat)
    simp only [cond_false]
    exact ⟨_, _, rfl, by rw [e]; exact e1, by rw [e]; exact e2, h.1, h.2⟩
theorem tmod_in {v k : Int} (h0 : 0 ≤ v) (hk : 0 < k) : 0 ≤ Int.tmod v k ∧ Int.tmod v k < k := by
  rw [Int.tmod_eq_emod_of_nonneg h0]
  exact ⟨Int.emod_nonneg _ (by omega), Int.emod_lt_of_pos _ hk⟩
theorem spec_l1BelowF_ok (n : Nat) (c : Src) (k : Int) (h : c.ok) : ∃ v c', spec_l1BelowF n c k = some (v, c') ∧ 0 ≤ v ∧ (0 < k → v < k) ∧ c'.ok := by
  unfold spec_l1BelowF
  by_cases h1 : k ≤ 0
  · rw [decide_eq_true h1]
    exact ⟨0, c, rfl, by omega, fun h => by omega, h⟩
  · rw [decide_eq_false h1]
    have hne : decide ((k : Int) ≠ 0) = true := decide_eq_true (by omega)
    by_cases h2 : k ≤ 256
    · rw [decide_eq_true h2]
      obtain ⟨v, c', e, e1, e2, e3⟩ := spec_l1ByteF_ok n c h
      simp only [cond_true, cond_false, e, Option.bind_some, hne]
      obtain ⟨t1, t2⟩ := tmod_in e1 (show 0 < k by omega)
      exact ⟨_, _, rfl, t1, fun _ => t2, e3⟩
    · rw [decide_eq_false h2]
      obtain ⟨v1, c1, e, e1, e2, e3⟩ := spec_l1ByteF_ok n c h
      obtain ⟨v2, c2, f, f1, f2, f3⟩ := spec_l1ByteF_ok n c1 e3
      obtain ⟨v3, c3, g, g1, g2, g3⟩ := spec_l1ByteF_ok n c2 f3
      simp only [cond_false, e, f, g, Option.bind_some, hne, cond_true]
      simp (disch := omega) only [wrap64]
      obtain ⟨t1, t2⟩ := tmod_in (show 0 ≤ v1 * 65536 + v2 * 256 + v3 by omega) (show 0 < k by omega)
      exact ⟨_, _, rfl, t1, fun _ => t2, g3⟩
theorem spec_l1OnceF_ok (n : Nat) (c : Src) (k : Int) (h : c.ok) : ∃ v c', spec_l1OnceF n c k = some (v, c') ∧ c'.ok := by
  obtain ⟨v, c', e, _, _, e3⟩ := spec_l1BelowF_ok n c k h
  unfold spec_l1OnceF
  rw [e]
  exact ⟨_, _, rfl, e3⟩
theorem spec_l1IntF_ok (n : Nat) (c : Src) (xs : List Int) (h : c.ok) (hx : 0 < xs.length) : ∃ v c', spec_l1IntF n c xs = some (v, c') ∧ v ∈ xs ∧ c'.ok := by
  obtain ⟨v, c', e, e1, e2, e3⟩ := spec_l1BelowF_ok n c (xs.length : Int) h
  obtain ⟨u, hu, hm⟩ := idx_of (xs := xs) e1 (e2 (by omega))
  unfold spec_l1IntF
  simp only [e, hu, Option.bind_some]
  exact ⟨_, _, rfl, hm, e3⟩
theorem spec_l1New_L2_tot (n : Nat) (x0 : List Int) (h : x0.length ≤ 1048580) : ∀ (m k : Nat) (y : Int), k ≤ x0.length → x0.length < m + k → ∃ v, spec_l1New_L2 n m x0 k y = some (.inl v)
  | 0, k, y, h1, h2 => by omega
  | m + 1, k, y, h1, h2 => by
    rw [spec_l1New_L2]
    by_cases hk : k < x0.length
    · rw [lt_true hk, idx_nat hk, wrap_nat (by omega)]
      by_cases h4 : (k : Int) < 4000
      · rw [decide_eq_true h4]
        simp only [cond_true, Option.bind_some]
        exact spec_l1New_L2_tot n x0 h m (k + 1) _ (by omega) (by omega)
      · rw [decide_eq_false h4]
        exact ⟨_, rfl⟩
    · have he : k = x0.length := by omega
      rw [he, lt_false]
      exact ⟨_, rfl⟩
theorem spec_l1NewF_ok (n : Nat) (x0 : List Int) (h : x0.length ≤ 1048580) (hn : x0.length < n) : ∃ c, spec_l1NewF n x0 = some c ∧ c.ok := by
  obtain ⟨v, e⟩ := spec_l1New_L2_tot n x0 h n 0 (IntKind.wrap .i64 (762762 + (x0.length : Int))) (by omega) (by omega)
  unfold spec_l1NewF
  rw [show spec_l1New_L2 n n x0 0 (IntKind.wrap .i64 (762762 + (x0.length : Int))) = _ from e]
  exact ⟨_, rfl, by show (0 : Int) ≤ 0; omega, by show x0.length ≤ _; omega⟩
theorem spec_l7DrawF_ok (n : Nat) (c : Src) (h : c.ok) : ∃ v c', spec_l7DrawF n c = some (v, c') ∧ c'.ok := by
  obtain ⟨v1, c1, e1, a1, b1, h1⟩ := spec_l1BelowF_ok n c 5 h
  obtain ⟨v2, c2, e2, a2, h2⟩ := spec_l1IntF_ok n c1 [0, 1, 2, 5, 10, 100] h1 (by decide)
  obtain ⟨v3, c3, e3, a3, h3⟩ := spec_l1IntF_ok n c2 [0, 1, 2, 9, 10] h2 (by decide)
  obtain ⟨v4, c4, e4, a4, b4, h4⟩ := spec_l1BelowF_ok n c3 5 h3
  obtain ⟨v5, c5, e5, a5, b5, h5⟩ := spec_l1BelowF_ok n c4 4 h4
  unfold spec_l7DrawF
  simp only [e1, e2, e3, e4, e5, Option.bind_some]
  exact ⟨_, _, rfl, h5⟩
theorem spec_l7AnyF_ok (n : Nat) (c : Src) (h : c.ok) : ∃ v c', spec_l7AnyF n c = some (v, c') ∧ c'.ok := by
  obtain ⟨v1, c1, e1, h1⟩ := spec_l7DrawF_ok n c h
  obtain ⟨v2, c2, e2, a2, b2, h2⟩ := spec_l1BelowF_ok n c1 12 h1
  obtain ⟨v3, c3, e3, a3, h3⟩ := spec_l1IntF_ok n c2 [0, 99, 100] h2 (by decide)
  obtain ⟨v4, c4, e4, a4, h4⟩ := spec_l1IntF_ok n c2 [(-1), 99999, 100000, 100001] h2 (by decide)
  obtain ⟨v5, c5, e5, a5, h5⟩ := spec_l1IntF_ok n c2 [(-1), 11] h2 (by decide)
  obtain ⟨v6, c6, e6, a6, h6⟩ := spec_l1IntF_ok n c2 [(-1), 7, 8] h2 (by decide)
  unfold spec_l7AnyF
  simp only [e1, e2, e3, e4, e5, e6, Option.bind_some]
  cases (v2 == 0) <;> cases (v2 == 1) <;> cases (v2 == 2) <;> cases (v2 == 3) <;> first | exact ⟨_, _, rfl, h2⟩ | exact ⟨_, _, rfl, h3⟩ | exact ⟨_, _, rfl, h4⟩ | exact ⟨_, _, rfl, h5⟩ | exact ⟨_, _, rfl, h6⟩
theorem spec_l10Draw_L2_tot (n : Nat) (p : Nat) (hp : p ≤ 1000) : ∀ (m k : Nat) (ys : List Pt) (c : Src), k ≤ p → p < m + k → ys.length = k → c.ok → ∃ (ys' : List Pt) (c' : Src), spec_l10Draw_L2 n m p k ys c.b c.i c.h = some (.inl (ys', c'.b, c'.i, c'.h)) ∧ ys'.length = p ∧ c'.ok
  | 0, k, ys, c, h1, h2, _, _ => by omega
  | m + 1, k, ys, c, h1, h2, h3, h4 => by
    rw [spec_l10Draw_L2]
    by_cases hk : k < p
    · obtain ⟨v1, c1, e1, g1⟩ := spec_l1OnceF_ok n c 4 h4
      obtain ⟨v2, c2, e2, a2, g2⟩ := spec_l1IntF_ok n c1 [1, 1, 2, 5, 10] g1 (by decide)
      obtain ⟨v3, c3, e3, g3⟩ := spec_l1OnceF_ok n c2 4 g2
      obtain ⟨v4, c4, e4, g4⟩ := spec_l7DrawF_ok n c3 g3
      have e1' : spec_l1OnceF n (⟨c.b, c.i, c.h⟩ : Src) 4 = some (v1, c1) := e1
      have hlen : ∀ u : Pt, decide (ys.length + [u].length ≤ 268435456) = true := fun u => decide_eq_true (by rw [List.length_singleton]; omega)
      have ih := fun u c' hc => spec_l10Draw_L2_tot n p hp m (k + 1) (ys ++ [u]) c' (by omega) (by omega) (by simp [h3]) hc
      simp only [lt_true hk, cond_true, e1', e2, e3, e4, Option.bind_some, spec_l10Draw_J3, hlen, wrap_nat (by omega : k ≤ 1099511627776)]
      cases v1 with
      | false =>
        simp only [Bool.not_false, cond_true]
        cases v3 with
        | false => simp only [Bool.not_false, cond_true]; exact ih _ c4 g4
        | true => simp only [Bool.not_true, cond_false]; exact ih _ c3 g3
      | true => simp only [Bool.not_true, cond_false]; exact ih _ c2 g2
    · have he : k = p := by omega
      rw [he, lt_false]
      exact ⟨ys, c, rfl, by omega, h4⟩
theorem spec_l10DrawF_ok (n : Nat) (c : Src) (p : Int) (h : c.ok) (h0 : 1 ≤ p) (h1 : p ≤ 1000) (hn : 1000 < n) : ∃ ys c', spec_l10DrawF n c p = some (ys, c') ∧ (ys.length : Int) = p ∧ c'.ok := by
  obtain ⟨ys, c', e, e1, e2⟩ := spec_l10Draw_L2_tot n p.toNat (by omega) n 0 [] c (by omega) (by omega) rfl h
  unfold spec_l10DrawF
  have hp : ((p.toNat : Nat) : Int) = p := by omega
  rw [hp] at e
  rw [show spec_l10Draw_L2 n n p 0 ([] : List Pt) c.b c.i c.h = _ from e]
  exact ⟨ys, _, rfl, by omega, e2⟩
theorem spec_l10AnyF_ok (n : Nat) (c : Src) (h : c.ok) (hn : 1000 < n) : ∃ ys c', spec_l10AnyF n c = some (ys, c') ∧ 1 ≤ ys.length ∧ ys.length ≤ 4 ∧ c'.ok := by
  obtain ⟨v1, c1, e1, a1, b1, g1⟩ := spec_l1BelowF_ok n c 4 h
  have b1 := b1 (by omega)
  obtain ⟨ys, c2, e2, a2, g2⟩ := spec_l10DrawF_ok n c1 (1 + v1) g1 (by omega) (by omega) hn
  obtain ⟨v3, c3, e3, a3, b3, g3⟩ := spec_l1BelowF_ok n c2 12 g2
  obtain ⟨v4, c4, e4, g4⟩ := spec_l7AnyF_ok n c3 g3
  obtain ⟨v5, c5, e5, a5, g5⟩ := spec_l1IntF_ok n c3 [0, 1000, 1001] g3 (by decide)
  obtain ⟨u, hu, _⟩ := idx_of (xs := ys) (i := 0) (by omega) (by omega)
  unfold spec_l10AnyF
  simp only [e1, Option.bind_some, wrap64 (show -9223372036854775808 ≤ 1 + v1 by omega) (by omega), e2, e3, e4, e5, hu]
  have hs : ∀ u : Pt, 1 ≤ (ys.set ((0 : Int)).toNat u).length ∧ (ys.set ((0 : Int)).toNat u).length ≤ 4 := fun u => by rw [List.length_set]; omega
  cases (v3 == 0) <;> cases (v3 == 1) <;> cases (v3 == 2) <;> first | exact ⟨_, _, rfl, by omega, by omega, g3⟩ | exact ⟨_, _, rfl, (hs _).1, (hs _).2, g3⟩ | exact ⟨_, _, rfl, (hs _).1, (hs _).2, g4⟩ | exact ⟨_, _, rfl, (hs _).1, (hs _).2, g5⟩
theorem laws_FnRolesBent_plain (x0 : List Int) (w0 : listWf byteWf x0) : ∃ n, laws_FnRolesBentF n x0 = some true := by
  refine ⟨1048580, ?_⟩
  simp only [laws_FnRolesBentF, laws_bigF, Option.bind_some]
  by_cases hb : (x0.length : Int) > 1048576
  · rw [decide_eq_true hb]; rfl
  · rw [decide_eq_false hb]
    obtain ⟨c, e, g⟩ := spec_l1NewF_ok 1048580 x0 (by omega) (by omega)
    obtain ⟨ys, c1, e1, a1, b1, g1⟩ := spec_l10AnyF_ok 1048580 c g (by omega)
    obtain ⟨u, hu, _⟩ := idx_of (xs := ys) (i := 0) (by omega) (by omega)
    obtain ⟨v2, c2, e2, a2, g2⟩ := spec_l1IntF_ok 1048580 c [3, 1, 5, 99] g (by decide)
    obtain ⟨zs, c3, e3, a3, b3, g3⟩ := spec_l10AnyF_ok 1048580 c2 g2 (by omega)
    obtain ⟨v4, c4, e4, a4, g4⟩ := spec_l1IntF_ok 1048580 c [3, 1, 5] g (by decide)
    obtain ⟨ws, c5, e5, a5, b5, g5⟩ := spec_l10AnyF_ok 1048580 c4 g4 (by omega)
    obtain ⟨v6, c6, e6, a6, b6, g6⟩ := spec_l1BelowF_ok 1048580 c5 4 g5
    have d1 : spec_DrawPtOkF 1048580 x0 = some u := by simp only [spec_DrawPtOkF, e, e1, hu, Option.bind_some]
    have d2 : spec_DrawBestVecF 1048580 x0 = some (v2, zs) := by simp only [spec_DrawBestVecF, e, e2, e3, Option.bind_some]
    have d3 : spec_DrawSayVecF 1048580 x0 = some (v4, ws, v6) := by simp only [spec_DrawSayVecF, e, e4, e5, e6, Option.bind_some]
    obtain ⟨q1, h1⟩ := spec_BestVecF_tot 1048580 v2 zs (by omega) (by omega)
    obtain ⟨q2, h2⟩ := spec_BestVecF_tot 1048580 v4 ws (by omega) (by omega)
    obtain ⟨q3, h3⟩ := spec_PtOkF_tot 1048580 u
    obtain ⟨f4, q4, h4⟩ := spec_SendsF_both 1048580 v2 zs (by omega) (by omega)
    have h5 : spec_SayVecF 1048580 v4 ws v6 = some (⟨q2.1.Root, q2.1.Cost, q2.1.Hops, q2.1.Bridge, v6⟩ : Vec) := by simp only [spec_SayVecF, h2, Option.bind_some]
    simp only [cond_false, d1, d2, d3, Option.bind_some, impl_BestVecF_eq, impl_SayVecF_eq, impl_PtOkF_eq, h1, h3, h5, f4, h4, beq_self_eq_true, Bool.and_self, cond_true]
end Go.Proofs.Ytgpcfaiacggoiaa.Tw
