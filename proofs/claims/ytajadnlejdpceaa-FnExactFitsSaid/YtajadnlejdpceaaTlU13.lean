import Derived.Test.YtajadnlejdpceaaTlU12
import Derived.Lib.ConvBytes
set_option linter.unusedVariables false
namespace Go.TL
open Go
def bytesOf (s : ByteArray) : List Int := s.data.toList.map fun b => (b.toNat : Int)
theorem bytesOf_length (s : ByteArray) : (bytesOf s).length = s.size := by
 unfold bytesOf
 rw [List.length_map,Array.length_toList]
 rfl
theorem zEF {P : Program} {cx : Cx} {T : Nat → Option TI} (hT : TOk P T) {st : St} {o : Oper} {t u : TypeId} {x : Operand} {d : Nat} {S : ByteArray}
  (ho : o.op = .convert t u x) (hdst : o.dst = some d) (hd : st.okD d) (ht : JM T t = true) (hu : zAP T u = true) (hx : zO st x = some (.string S)) (hS : S.size ≤ 268435456) :
  zt P cx o st (st.put d (.val false [.sl false 1 (CV.frzEs ((bytesOf S).map zA))])) := by
 intro a w Z ω h
 have hv := (zQ h hx).1
 have h3 := zAA hT ht
 unfold zAP at hu
 split at hu
 ·rename_i e he
  split at hu
  ·rename_i hint
   have h1 := Ze hT he
   have h2 := QZ hT hint
   have hold : ∀ b,b < w.heap.size → (Lib.bytesWorld w e S).heap[b]? = w.heap[b]? := fun b hb => Lib.bytesWorld_at_old w e S b hb
   have hsz := Lib.bytesWorld_size w e S
   have hfr : ∀ (v : World) (a : Addr) (n : Nat),(v.freeze a n).os = v.os ∧ (v.freeze a n).tape = v.tape ∧ (v.freeze a n).output = v.output := fun v a n => by
    unfold World.freeze
    split <;> exact ⟨rfl,rfl,rfl⟩
   have hi := (h.inv.drew.alloc (Lib.bytesCells w e S) e [9])
   have hinv : Inv cx (Lib.bytesWorld w e S) (fun b => Z b ∨ b = w.heap.size) ω := by
    obtain ⟨f1,f2,f3⟩ := hfr (w.drew.alloc (.cells (Lib.bytesCells w e S) e)) ⟨w.heap.size,(Lib.bytesCells w e S).size,none⟩ 1
    refine { os := f1.trans hi.os,tape := f2.trans hi.tape,output := f3.trans hi.output,size := by rw [hsz]; have := h.inv.size; omega,keep := fun b hb h0 => ?_,zsub := fun b hb => .inl (h.inv.zsub b hb),zold := fun b hb hlt h0 => ?_,wold := h.inv.wold,disj := fun b p hb => ?_,inj := h.inv.inj,lt := fun b p hb => ?_,zlt := fun b hb => ?_ }
    ·rw [hold b (by have := h.inv.size; omega)]; exact h.inv.keep b hb h0
    ·rcases hb with hb | rfl
     ·exact h.inv.zold b hb hlt h0
     ·have := h.inv.size; omega
    ·rcases hb with hb | rfl
     ·exact h.inv.disj b p hb
     ·intro hb; have := h.inv.lt _ p hb; omega
    ·rw [hsz]; have := h.inv.lt b p hb; omega
    ·rw [hsz]
     rcases hb with hb | rfl
     ·have := h.inv.zlt b hb; omega
     ·omega
   refine ⟨.slice (some ⟨w.heap.size,0,none⟩) S.size (grownCap w S.size 0 e),Lib.bytesWorld w e S,fun b => Z b ∨ b = w.heap.size,ω,.inl ?_,?_⟩
   ·have := Lib.run_convert_string_bytes (P := P) w t u e S h3 h1 h2
    simp [execOp,ho,hv,this]
   ·rw [hdst]
    refine h.put hd hinv (fun b hb => ⟨.inl hb,hold b (h.inv.zlt b hb)⟩) (fun r hr b x hb => ⟨hb,hold b (h.inv.lt b _ hb)⟩) ⟨rfl,rfl,fun j c v hc hv => ?_⟩
    cases j with
    | succ j => simp at hc
    | zero =>
     simp only [List.getElem?_cons_zero,Option.some.injEq] at hc
     subst hc
     have hv' : v = .slice (some ⟨w.heap.size,0,none⟩) S.size (grownCap w S.size 0 e) := by
      have : (some (Value.slice (some ⟨w.heap.size,0,none⟩) S.size (grownCap w S.size 0 e))) = some v := hv
      exact (Option.some.inj this).symm
     subst hv'
     have hlen : (CV.frzEs ((bytesOf S).map zA)).length = S.size := by rw [CV.frzEs_length,List.length_map,bytesOf_length]
     have hel : ∀ i j c,elC (CV.frzEs ((bytesOf S).map zA)) i j = some c → ∃ hi : i < S.size,j = 0 ∧ c = .lit (.int .u8 (S.data.toList.getD i 0).toNat) := fun i j c hij => by
      obtain ⟨c0,h0,rfl⟩ := q1 hij
      obtain ⟨r,g1,g2⟩ := qY h0
      rw [List.getElem?_map] at g1
      unfold bytesOf at g1
      rw [List.getElem?_map] at g1
      cases hb : S.data.toList[i]? with
      | none => rw [hb] at g1; cases g1
      | some b =>
       rw [hb] at g1
       cases g1
       have hlt : i < S.data.toList.length := (List.getElem?_eq_some_iff.1 hb).1
       refine ⟨by rw [Array.length_toList] at hlt; exact hlt,?_,?_⟩
       ·cases j with
        | zero => rfl
        | succ j => simp [zA] at g2
       ·cases j with
        | succ j => simp [zA] at g2
        | zero =>
         simp only [zA,List.getElem?_cons_zero,Option.some.injEq] at g2
         subst g2
         simp [CV.frz,List.getD,hb]
     rw [← hlen]
     refine .fro _ ⟨w.heap.size,0,none⟩ _ 1 _ (fun i _ => .int .u8 (S.data.toList.getD i 0).toNat) (fun _ => rfl) (fun _ => .inr rfl) (by rw [hlen]; exact grownCap_ge w S.size 0 e) ?_ (fun x hx => ?_) (fun i j c hij => ?_) (fun i j c hij => ?_) (fun i j c hij => ?_)
     ·rw [hlen]
      exact grownCap_le_maxLen w S.size 0 e (by simp only [maxLen]; omega)
     ·rw [CV.frzEs_eq,List.map_map] at hx
      obtain ⟨b,_,rfl⟩ := List.mem_map.1 hx
      rfl
     ·obtain ⟨_,_,rfl⟩ := hel i j c hij
      rfl
     ·obtain ⟨hi,rfl,rfl⟩ := hel i j c hij
      have := Lib.bytesWorld_cell w e S i hi
      simp only [Nat.mul_one,Nat.add_zero,Nat.zero_add]
      exact this
     ·obtain ⟨_,_,rfl⟩ := hel i j c hij
      exact .lit _ _ rfl
  ·cases hu
 ·cases hu
theorem LAt.s2b {P : Program} {cx : Cx} {T : Nat → Option TI} (hT : TOk P T) {ops : Array Oper} {n : Nat} {st : St} {K : St → Prop} {t u ty : TypeId} {x : Operand} {d : Nat} {g : Option (Nat × Bool)} {S : ByteArray}
  (hop : opAt ops n = some (.convert t u x,some d,ty,g)) (hg : gdT ops st g = true) (hd : zN st d = true) (ht : JM T t = true) (hu : zAP T u = true) (hx : zO st x = some (.string S)) (hG : decide (S.size ≤ 268435456) = true)
  (hk : LAt P cx ops (n + 1) (st.put d (.val false [.sl false 1 (CV.frzEs ((bytesOf S).map zA))])) K) : LAt P cx ops n st K :=
 LAt.stepG hop hg hd (fun o ho hdst _ => zEF hT ho hdst (zU hd) ht hu hx (of_decide_eq_true hG)) hk
end Go.TL
