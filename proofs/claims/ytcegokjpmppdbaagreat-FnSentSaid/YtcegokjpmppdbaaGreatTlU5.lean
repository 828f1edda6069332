import Derived.Test.YtcegokjpmppdbaaGreatTlU4
set_option linter.unusedVariables false
namespace Go.TL
def strOf (xs : List Int) : ByteArray := xs.foldl (fun s n => s.push (UInt8.ofNat n.toNat)) ByteArray.empty
theorem zGv {P : Program} {w : World} {f : Value → ByteArray → Sem (ForInStep ByteArray)} (hf : ∀ (n : Int) s,(f (.int .u8 n) s).run P w = .ok (.yield (s.push (UInt8.ofNat n.toNat))) w) : ∀ (xs : List Int) (s : ByteArray),
  (forIn (xs.map fun n => Value.int .u8 n) s f : Sem ByteArray).run P w = .ok (xs.foldl (fun s n => s.push (UInt8.ofNat n.toNat)) s) w
 | [],s => by simp
 | n :: xs,s => by
  rw [List.map_cons,List.forIn_cons,Sem.run_bind,hf n s]
  simp only [Result.andThen_ok]
  exact zGv hf xs (s.push (UInt8.ofNat n.toNat))
theorem zJq {P : Program} {w : World} {A : Addr} {cap : Nat} (xs : List Int) (hs : xs ≠ [] → A.spot = none) (hc : ∀ (j : Nat) n,xs[j]? = some n → w.cell? ⟨A.block,A.off + j,none⟩ = some (.int .u8 n)) :
  (Conv.bytesToString (.slice (some A) xs.length cap)).run P w = .ok (.string (strOf xs)) w := by
 have hl : (loadCells A xs.length).run P w = .ok (xs.map fun n => Value.int .u8 n).toArray w := by
  cases hx : xs with
  | nil => simp [loadCells,loadCellsFrom]
  | cons x0 xs0 =>
   obtain ⟨Ab,Ao,Asp⟩ := A
   have h0 := hs (by rw [hx]; simp)
   simp only at h0
   subst h0
   have h3 := run_loadCells_list (P := P) (w := w) ⟨Ab,Ao,none⟩ ((x0 :: xs0).map fun n => Value.int .u8 n) (fun j v hv => by
    rw [add_lit]
    rw [List.getElem?_map,← hx] at hv
    cases hj : xs[j]? with
    | none => rw [hj] at hv; cases hv
    | some n => rw [hj] at hv; cases hv; exact hc j n hj)
   rw [List.length_map] at h3
   exact h3
 simp only [Conv.bytesToString,Sem.run_bind,hl,Result.andThen_ok]
 rw [List.forIn_toArray]
 rw [zGv (fun n s => by simp) xs ByteArray.empty]
 rfl
def zEc (T : Nat → Option TI) (t : TypeId) : Bool := match q9 T t with
 | some e => match isInt T e with
  | some .u8 => true
  | _ => false
 | none => false
theorem zKf {P : Program} {cx : Cx} {T : Nat → Option TI} (hT : TOk P T) {st : St} {o : Oper} {t u : TypeId} {x : Operand} {d : Nat} {s : QU} (xs : List Int)
  (ho : o.op = .convert t u x) (hdst : o.dst = some d) (hd : st.okD d) (ht : zEc T t = true) (hu : zCy T u = true) (hx : slS st x = some s) (hsz : s.sz = 1) (hes : s.es = xs.map fun n => [CV.lit (.int .u8 n)]) :
  qn P cx o st (st.put d (.val false [.lit (.string (strOf xs))])) := by
 refine Jv hdst hd rfl fun a w Z ω h => ?_
 have hR := Q6 h hx
 obtain ⟨ad,cap,us,e1,e2,e3,e4,e5,e6,e7,e8,e9⟩ := hR.read
 have hlen : s.es.length = xs.length := by rw [hes,List.length_map]
 unfold zEc at ht
 split at ht
 ·rename_i e he
  split at ht
  ·rename_i hint
   have h1 := Yd hT he
   have h2 := Jt hT hint
   have h3 := zEL hT hu
   have hrun : (Conv.bytesToString (a.eval x)).run P w = .ok (.string (strOf xs)) w := by
    rw [e1,hlen]
    cases ad with
    | none =>
     have hnil : s.es = [] := (e4 rfl).1
     rw [hnil] at hes
     have : xs = [] := by cases xs with | nil => rfl | cons a b => simp at hes
     subst this
     simp [Conv.bytesToString,strOf]
    | some A =>
     refine zJq xs (fun hne => e5 (fun hh => hne (by rw [hh] at hlen; exact List.eq_nil_of_length_eq_zero hlen.symm)) A rfl) fun j n hj => ?_
     have hel : elC s.es j 0 = some (.lit (.int .u8 n)) := by
      unfold elC
      rw [hes,List.getElem?_map,hj]
      rfl
     have h4 := e7 A rfl j 0 _ hel
     rw [hsz,Nat.mul_one,Nat.add_zero] at h4
     have h5 := e8 j 0 _ hel
     generalize us j 0 = v at h4 h5
     cases h5
     exact h4
   have hev : ∃ ad len cap,a.eval x = .slice ad len cap := ⟨_,_,_,e1⟩
   obtain ⟨ad',len',cap',hv⟩ := hev
   rw [hv] at hrun
   simp [execOp,ho,hv,convert,run_underlying h1,run_underlying h2,run_underlying h3,hrun]
  ·cases ht
 ·cases ht
theorem LAt.b2s {P : Program} {cx : Cx} {T : Nat → Option TI} (hT : TOk P T) {ops : Array Oper} {n : Nat} {st : St} {K : St → Prop} {t u ty : TypeId} {x : Operand} {d : Nat} {g : Option (Nat × Bool)} (s : QU) (xs : List Int)
  (hop : opAt ops n = some (.convert t u x,some d,ty,g)) (hg : gdT ops st g = true) (hd : zh st d = true) (ht : zEc T t = true) (hu : zCy T u = true) (hx : slS st x = some s) (hsz : Nat.beq s.sz 1 = true) (hes : s.es = xs.map zM ∨ s.es = CV.frzEs (xs.map zM))
  (hk : LAt P cx ops (n + 1) (st.put d (.val false [.lit (.string (strOf xs))])) K) : LAt P cx ops n st K := by
 refine LAt.stepG hop hg hd (fun o ho hdst _ => zKf hT xs ho hdst (zu hd) ht hu hx (Nat.eq_of_beq_eq_true hsz) ?_) hk
 rcases hes with h | h
 ·exact h
 ·rw [h,CV.frzEs_eq,List.map_map]
  exact List.map_congr_left fun v _ => rfl
theorem kr {p : Prop} (h : p := by kernel_rfl) : p := h
def cI (z : Int) : CV := .lit (.int .i64 z)
def cB (z : Bool) : CV := .lit (.bool z)
def cS (z : ByteArray) : CV := .lit (.string z)
def cL {α : Type} (n : Nat) (xs : List α) (row : α → List CV) : CV := .sl true n (xs.map row)
def cF {α : Type} (n : Nat) (xs : List α) (row : α → List CV) : CV := .sl false n (CV.frzEs (xs.map row))
def sI (t : Nat) (z : Int) : Nat × SV := (t,.val false [.lit (.int .i64 z)])
def sB (t : Nat) (z : Bool) : Nat × SV := (t,.val false [.lit (.bool z)])
def sC (t : Nat) (c : CV) : Nat × SV := (t,.val false [c])
def sV (t : Nat) (cs : List CV) : Nat × SV := (t,.val true cs)
def sA (t k m o : Nat) : Nat × SV := (t,.adr (.box k) [(0,0)] m o)
def sR (t k m o n : Nat) (ag : Bool) : Nat × SV := (t,.ref (.box k) [(0,0)] m o n ag)
def St.onlyM (m b : Nat) (st : St) : St := { st with s := st.s.filter fun x => Nat.testBit m x.1,b := st.b.filter fun x => Nat.testBit b x.1 }
theorem St.onlyM_sub (m b : Nat) (st : St) : (st.onlyM m b).sub st :=
 ⟨rfl,rfl,fun t sv h => (List.mem_filter.1 h).1,fun k cs h => (List.mem_filter.1 h).1⟩
theorem LAt.doneM {P : Program} {cx : Cx} {ops : Array Oper} {i : Nat} {st : St} {K : St → Prop} (m b : Nat) (h : Nat.ble ops.size i = true) (hk : K (st.onlyM m b)) : LAt P cx ops i st K := by
 unfold LAt
 rw [List.drop_eq_nil_of_le (by simpa using Nat.le_of_ble_eq_true h)]
 exact qa.sub (St.onlyM_sub m b st) (qa.nil hk)
end Go.TL
