/- From what a row says of arguments and results to trees. -/
import Derived.Test.YtnhmckiejhbmcaaTlY
import Derived.Below
import Derived.ChangeSame
import Derived.ChangeArms
import Derived.WideShapes
set_option linter.unusedVariables false
namespace Go.TL

inductive Lf where
  | int (k : IntKind)
  | bool
  | str

def FitC : Lf → CV → Prop
  | .int k, c => ∃ n, c = .lit (.int k n) ∧ (Lit.int k n).wf = true
  | .bool, c => ∃ b, c = .lit (.bool b)
  | .str, c => ∃ s : ByteArray, c = .lit (.string s) ∧ s.size ≤ maxLen
def FitR : List Lf → List CV → Prop
  | [], [] => True
  | l :: ls, c :: cs => FitC l c ∧ FitR ls cs
  | _, _ => False
theorem FitR.length : ∀ {ls : List Lf} {cs : List CV}, FitR ls cs → cs.length = ls.length
  | [], [], _ => rfl
  | _ :: ls, _ :: cs, h => by simp only [List.length_cons, FitR.length h.2]
  | [], _ :: _, h => h.elim
  | _ :: _, [], h => h.elim
theorem FitR.append : ∀ {ls ls' : List Lf} {cs cs' : List CV}, FitR ls cs → FitR ls' cs' → FitR (ls ++ ls') (cs ++ cs')
  | [], _, [], _, _, h' => h'
  | _ :: ls, _, _ :: cs, _, h, h' => ⟨h.1, FitR.append h.2 h'⟩
  | [], _, _ :: _, _, h, _ => h.elim
  | _ :: _, _, [], _, h, _ => h.elim

def shF (P : Program) (g : TypeId → Option (List Lf)) : Nat → List Field → Option (List Lf)
  | _, [] => some []
  | o, f :: fs => match g f.type with
    | some l => bif f.offset == o && l.length == P.cellsOf f.type then (match shF P g (o + l.length) fs with
      | some r => some (l ++ r)
      | none => none) else none
    | none => none
def shR (P : Program) : Nat → TypeId → Option (List Lf)
  | 0, _ => none
  | n + 1, t => match P.underlying t with
    | some (.int k) => some [.int k]
    | some .bool => some [.bool]
    | some .string => some [.str]
    | some (.struct fs) => match shF P (shR P n) 0 fs.toList with
      | some l => bif l.length == P.cellsOf t then some l else none
      | none => none
    | _ => none

theorem repL_one {w Z ω p v} (h : v.oneCell' = true) : RepL w Z ω p [v] [.lit v] := by
  refine ⟨rfl, fun j c u hc hu => ?_⟩
  cases j with
  | zero =>
    simp only [List.getElem?_cons_zero, Option.some.injEq] at hc hu
    subst hc; subst hu
    exact .lit _ _ h
  | succ j => simp at hc

/-- Trees on any path. -/
def RepA (w : World) (Z : Stab) (us : List Value) (cs : List CV) : Prop := ∀ ω p, RepL w Z ω p us cs
theorem RepA.append {w Z us us' cs cs'} (h : RepA w Z us cs) (h' : RepA w Z us' cs') (hf : CV.flatRow cs' = true) : RepA w Z (us ++ us') (cs ++ cs') := by
  intro ω p
  have h1 := h ω p
  have h2 := h' ω p
  refine ⟨by simp [h1.1, h2.1], fun j c u hc hu => ?_⟩
  by_cases hj : j < cs.length
  · rw [List.getElem?_append_left hj] at hc
    rw [List.getElem?_append_left (by rw [h1.1]; exact hj)] at hu
    exact h1.2 j c u hc hu
  · rw [List.getElem?_append_right (by omega)] at hc
    rw [List.getElem?_append_right (by rw [h1.1]; omega), h1.1] at hu
    have := h2.2 _ c u hc hu
    rw [CV.flatRow_eq, List.all_eq_true] at hf
    exact this.flat_conv (hf c (List.mem_of_getElem? hc)) _ fun b hb => ⟨hb, rfl⟩

theorem FitC.flat {l : Lf} {c : CV} (h : FitC l c) : c.flat = true := by
  cases l with
  | int k => obtain ⟨n, rfl, _⟩ := h; rfl
  | bool => obtain ⟨b, rfl⟩ := h; rfl
  | str => obtain ⟨s, rfl, _⟩ := h; rfl
theorem FitR.flat : ∀ {ls : List Lf} {cs : List CV}, FitR ls cs → CV.flatRow cs = true
  | [], [], _ => rfl
  | _ :: ls, _ :: cs, h => by simp only [CV.flatRow, h.1.flat, FitR.flat h.2, Bool.and_self]
  | [], _ :: _, h => h.elim
  | _ :: _, [], h => h.elim

section
variable {H : Type} {enc : TypeId × Value → H} {P : Program} {w : World} {base : Nat} {sp : Nat → Bool} {held : Bool}

theorem read_fields {Z : Stab} {g : TypeId → Option (List Lf)} {cs : List Value} (hg : ∀ t l, g t = some l → ∀ fuel us x, DataW.trod enc P w base sp held fuel t us = some x → us.length = l.length ∧ ∃ tree, FitR l tree ∧ RepA w Z us tree) :
    ∀ (fs : List Field) (o : Nat) (l : List Lf), shF P g o fs = some l → o + l.length ≤ cs.length → (∀ (i : Nat) f, fs[i]? = some f → ∃ n x, DataW.trod enc P w base sp held n f.type ((cs.drop f.offset).take (P.cellsOf f.type)) = some x) →
      ∃ tree, FitR l tree ∧ RepA w Z ((cs.drop o).take l.length) tree
  | [], o, l, h, hl, hf => by
    simp only [shF, Option.some.injEq] at h
    subst h
    refine ⟨[], trivial, fun ω p => ⟨by simp, fun j c u hc => by simp at hc⟩⟩
  | f :: fs, o, l, h, hl, hf => by
    simp only [shF] at h
    split at h
    · rename_i l1 hl1
      cases hc : (f.offset == o && l1.length == P.cellsOf f.type) with
      | false => simp [hc] at h
      | true =>
        simp only [hc, cond_true] at h
        rw [Bool.and_eq_true] at hc
        have ho := eq_of_beq hc.1
        have hn := eq_of_beq hc.2
        split at h
        · rename_i r hr
          cases h
          obtain ⟨n, x, hx⟩ := hf 0 f rfl
          obtain ⟨g1, t1, g2, g3⟩ := hg _ _ hl1 _ _ _ hx
          rw [List.length_append] at hl
          obtain ⟨t2, k1, k2⟩ := read_fields hg fs (o + l1.length) r hr (by omega) (fun i f' hi => hf (i + 1) f' (by simpa using hi))
          refine ⟨t1 ++ t2, g2.append k1, ?_⟩
          have he : (cs.drop o).take (l1 ++ r).length = (cs.drop o).take l1.length ++ (cs.drop (o + l1.length)).take r.length := by
            rw [List.length_append, List.take_add, List.drop_drop]
          rw [he]
          refine RepA.append ?_ k2 k1.flat
          rw [ho, ← hn] at g3
          exact g3
        · cases h
    · cases h

theorem read_row {Z : Stab} : ∀ (n : Nat) (t : TypeId) (l : List Lf), shR P n t = some l → ∀ fuel us x, DataW.trod enc P w base sp held fuel t us = some x → us.length = l.length ∧ ∃ tree, FitR l tree ∧ RepA w Z us tree := by
  intro n
  induction n with
  | zero => intro t l h; cases h
  | succ n ih =>
    intro t l h fuel us x hx
    simp only [shR] at h
    split at h
    · rename_i k hu
      cases h
      obtain ⟨m, rfl, _, hw⟩ := DataW.trod_int hu hx
      exact ⟨rfl, [.lit (.int k m)], ⟨⟨m, rfl, hw⟩, trivial⟩, fun ω p => repL_one rfl⟩
    · rename_i hu
      cases h
      obtain ⟨b, rfl, _⟩ := DataW.trod_bool hu hx
      exact ⟨rfl, [.lit (.bool b)], ⟨⟨b, rfl⟩, trivial⟩, fun ω p => repL_one rfl⟩
    · rename_i hu
      cases h
      obtain ⟨s, rfl, _, hs⟩ := DataW.trod_string hu hx
      exact ⟨rfl, [.lit (.string s)], ⟨⟨s, rfl, hs⟩, trivial⟩, fun ω p => repL_one rfl⟩
    · rename_i fs hu
      split at h
      · rename_i l' hl'
        cases hc : (l'.length == P.cellsOf t) with
        | false => simp [hc] at h
        | true =>
          simp only [hc, cond_true, Option.some.injEq] at h
          subst h
          have hlen := eq_of_beq hc
          obtain ⟨xs, m, _, _, hl, hxl, hf⟩ := DataW.trod_struct hu hx
          have hl2 : us.length = l'.length := by rw [hl, hlen]
          obtain ⟨tree, h1, h2⟩ := read_fields (Z := Z) (cs := us) (fun t l hl fuel us x hx => ih t l hl fuel us x hx) fs.toList 0 l' hl' (by omega) (fun i f hi => by
            have := hf i f (by simpa using hi)
            cases hxi : xs[i]? with
            | none =>
              have h3 := (List.getElem?_eq_some_iff.1 hi).1
              rw [Array.length_toList] at h3
              have h4 := List.getElem?_eq_none_iff.1 hxi
              omega
            | some y => exact ⟨m, y, by rw [this, hxi]⟩)
          refine ⟨hl2, tree, h1, ?_⟩
          rw [← hl2] at h2
          simpa using h2
      · cases h
    · cases h
end
end Go.TL
