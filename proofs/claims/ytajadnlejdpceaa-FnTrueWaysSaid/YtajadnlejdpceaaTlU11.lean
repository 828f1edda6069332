import Derived.Test.YtajadnlejdpceaaTlU10
set_option linter.unusedVariables false
namespace Go.TL
open Go
class TC (P : Program) (T : outParam (Nat → Option TI)) : Prop where
 ok : TOk P T
variable {P : Program} {cx : Cx} {T : Nat → Option TI} {ops : Array Oper} {st : St} {c : Code} {Q : Exit → St → Prop} {K : St → Prop} {i id : Nat}
theorem gA [h : TC P T] (n m b : Nat) (hk : Tr P cx c ((Jk T ops 0 n st).onlyM m b) Q) (h1 : (zAN T ops 0 n st).isSome = true := by kernel_rfl) (h2 : Nat.ble ops.size (0 + n) = true := by kernel_rfl) : Tr P cx (.seq (.region id ops false) c) st Q := tG h.ok n m b h1 h2 hk
theorem eA [h : TC P T] (n m b : Nat) (hk : Q .normal ((Jk T ops 0 n st).onlyM m b)) (h1 : (zAN T ops 0 n st).isSome = true := by kernel_rfl) (h2 : Nat.ble ops.size (0 + n) = true := by kernel_rfl) : Tr P cx (.region id ops false) st Q := tE h.ok n m b h1 h2 hk
theorem uA [h : TC P T] (n m b : Nat) (hk : K ((Jk T ops i n st).onlyM m b)) (h1 : (zAN T ops i n st).isSome = true := by kernel_rfl) (h2 : Nat.ble ops.size (i + n) = true := by kernel_rfl) : LAt P cx ops i st K := uD h.ok n m b h1 h2 hk
theorem rA [h : TC P T] (n : Nat) (hk : LAt P cx ops (0 + n) (Jk T ops 0 n st) (fun st' => Tr P cx c st' Q)) (h1 : (zAN T ops 0 n st).isSome = true := by kernel_rfl) : Tr P cx (.seq (.region id ops false) c) st Q := rU h.ok n h1 hk
theorem lA [h : TC P T] (n : Nat) (hk : LAt P cx ops (i + n) (Jk T ops i n st) K) (h1 : (zAN T ops i n st).isSome = true := by kernel_rfl) : LAt P cx ops i st K := lU h.ok n h1 hk
theorem dA (m b : Nat) (hk : K (st.onlyM m b)) (h : Nat.ble ops.size i = true := by kernel_rfl) : LAt P cx ops i st K := lD m b h hk
theorem fA {a b c : St → Prop} (hc : c st) (h : Nat.ble ops.size i = true := by kernel_rfl) (ha : a st := by kernel_rfl) (hb : b st := by kernel_rfl) : LAt P cx ops i st (fun s => (a s ∧ b s) ∧ c s) := lF h ha hb hc
theorem vA [h : TC P T] (ms : List Mode) {f : FuncId} {ps : List qS} {rets : List Ret} (hL : zG P f ps rets []) (hk : LAt P cx ops (i + 1) (zCn T ms (Qh ops i).toList (YA ops i).toList (opD ops i) rets st) K)
  (hop : opAt ops i = some (.call { callee := .value (.func f),args := Qh ops i,argTypes := YA ops i },opD ops i,opY ops i,opG ops i) := by kernel_rfl) (hg : gdT ops st (opG ops i) = true := by kernel_rfl) (hd : dB st (opD ops i) = true := by kernel_rfl)
  (hq : (zBi T ms (Qh ops i).toList (YA ops i).toList (opD ops i) rets st).map (fun x => (x.1,x.2.1)) = some (ps,[]) := by kernel_rfl) : LAt P cx ops i st K := lV h.ok ms [] hL hop hg hd hq (.inl rfl) hk
theorem vB [h : TC P T] (ms : List Mode) (brs : List zD) {f : FuncId} {ps : List qS} {rets : List Ret} (hL : zG P f ps rets []) (hmine : brs = [] ∨ ∀ r ∈ rets,r.mine) (hk : LAt P cx ops (i + 1) (zCn T ms (Qh ops i).toList (YA ops i).toList (opD ops i) rets st) K)
  (hop : opAt ops i = some (.call { callee := .value (.func f),args := Qh ops i,argTypes := YA ops i },opD ops i,opY ops i,opG ops i) := by kernel_rfl) (hg : gdT ops st (opG ops i) = true := by kernel_rfl) (hd : dB st (opD ops i) = true := by kernel_rfl)
  (hq : (zBi T ms (Qh ops i).toList (YA ops i).toList (opD ops i) rets st).map (fun x => (x.1,x.2.1)) = some (ps,brs) := by kernel_rfl) : LAt P cx ops i st K := lV h.ok ms brs hL hop hg hd hq hmine hk
theorem tA {cc : Operand} {x y : Code} {e : Bool} (he : e = true) (h : Tr P cx x st Q) (hc : zg st cc = some (.bool e) := by kernel_rfl) : Tr P cx (.cond cc x y) st Q := tT he hc h
theorem nA {cc : Operand} {x y : Code} {e : Bool} (he : e = false) (h : Tr P cx y st Q) (hc : zg st cc = some (.bool e) := by kernel_rfl) : Tr P cx (.cond cc x y) st Q := tF he hc h
theorem tB_ {cc : Operand} {x y : Code} (h : Tr P cx x st Q) (hc : zg st cc = some (.bool true) := by kernel_rfl) : Tr P cx (.cond cc x y) st Q := tt hc h
theorem nB_ {cc : Operand} {x y : Code} (h : Tr P cx y st Q) (hc : zg st cc = some (.bool false) := by kernel_rfl) : Tr P cx (.cond cc x y) st Q := tf hc h
def zEY : List (Nat × List Nat) → List Nat → List Nat
 | [],E => E
 | (i,_) :: l,E => zEY l (i :: E)
theorem zJH {t : Tab} : ∀ (l : List (Nat × List Nat)) (ps : List Pin) (E : List Nat) (m : Nat) (st : St) (x : List Pin × List Nat × St),zDh T ops t l ps E m st = some x → x.2.1 = zEY l E
 | [],ps,E,m,st,x,h => by cases h; rfl
 | (i,D) :: l,ps,E,m,st,x,h => by
  simp only [zDh] at h
  split at h
  ·exact zJH l _ _ _ _ x h
  ·cases h
theorem zJF : ∀ (l : List (Nat × List Nat)) (ps : List Pin) (E : List Nat) (st : St) (x : List Pin × List Nat × St),zA9 T ops l ps E st = some x → x.2.1 = zEY l E
 | [],ps,E,st,x,h => by cases h; rfl
 | (i,D) :: l,ps,E,st,x,h => by
  simp only [zA9] at h
  split at h
  ·exact zJF l _ _ _ x h
  ·cases h
theorem mA [hT : TC P T] {t : Tab} (ht : zk ops t = true) {m : Nat} {ps : List Pin} {E : List Nat} (l : List (Nat × List Nat)) (n : Nat) (ps' : List Pin) (hk : ∀ cx',AT P cx' ops ps' n (zEY l E) (zJG T ops t l ps E st) K) (hn : n + l.length = m := by rfl) (h : (zDh T ops t l ps E (zr E) st).map (fun x => x.1) = some ps' := by kernel_rfl) : AT P cx ops ps m E st K := by
 refine mU hT.ok ht l n ps' (zEY l E) hn ?_ hk
 cases hc : zDh T ops t l ps E (zr E) st with
 | none => rw [hc] at h; cases h
 | some x =>
  rw [hc] at h
  have h1 := zJH l ps E _ st x hc
  obtain ⟨ps1,E1,st1⟩ := x
  cases h
  simp only at h1
  subst h1
  rfl
theorem aA [hT : TC P T] {m : Nat} {ps : List Pin} {E : List Nat} (l : List (Nat × List Nat)) (n : Nat) (ps' : List Pin) (hk : ∀ cx',AT P cx' ops ps' n (zEY l E) (zHD T ops l ps E st) K) (hn : n + l.length = m := by rfl) (h : (zA9 T ops l ps E st).map (fun x => x.1) = some ps' := by kernel_rfl) : AT P cx ops ps m E st K := by
 refine aU hT.ok l n ps' (zEY l E) hn ?_ hk
 cases hc : zA9 T ops l ps E st with
 | none => rw [hc] at h; cases h
 | some x =>
  rw [hc] at h
  have h1 := zJF l ps E st x hc
  obtain ⟨ps1,E1,st1⟩ := x
  cases h
  simp only at h1
  subst h1
  rfl
theorem mC [hT : TC P T] {t : Tab} (ht : zk ops t = true) {ps : List Pin} {n : Nat} {E : List Nat} (i : Nat)
  (h : LAt P cx (takeA ops (i + 1)) i st (fun st' => (ps.map (fun p => zJC st' (JV t.sz (zr (i :: E)) p) p) = ps.map (fun p => zES T st' (JV t.sz (zr (i :: E)) p) p) ∧ (ps.all fun p => (zES T st' (JV t.sz (zr (i :: E)) p) p).isSome) = true) ∧ AT P cx ops ps n (i :: E) st' K)) (hr : zB9 t (zr E) = [i] := by kernel_rfl) (hb : zIe ops t ps (zr E) i = true := by kernel_rfl) : AT P cx ops ps (n + 1) E st K := mB1 hT.ok ht i hr hb h
theorem bA [hT : TC P T] {ps : List Pin} {n : Nat} {E : List Nat} (i : Nat)
  (h : LAt P cx (takeA ops (i + 1)) i st (fun st' => (ps.map (zGR st' (lsd ops (i :: E))) = ps.map (zCM T st' (lsd ops (i :: E))) ∧ (ps.all fun p => (zCM T st' (lsd ops (i :: E)) p).isSome) = true) ∧ AT P cx ops ps n (i :: E) st' K)) (hr : Region.ready .any ops (lsd ops E) = [i] := by kernel_rfl) (hb : zIm ops ps E i = true := by kernel_rfl) : AT P cx ops ps (n + 1) E st K := AT.big1 hT.ok i hr hb h
theorem mE {t : Tab} (ht : zk ops t = true) {ps : List Pin} {n : Nat} {E : List Nat} {S : St} (ls bs : List Nat) (hr : zB9 t (zr E) = [] := by kernel_rfl) (hs : st.pick ls bs = S := by kernel_rfl) : AT P cx ops ps n E st (fun s => s = S) := mD ht ls bs S hr hs rfl
theorem eE {ps : List Pin} {n : Nat} {E : List Nat} {S : St} (ls bs : List Nat) (hr : Region.ready .any ops (lsd ops E) = [] := by kernel_rfl) (hs : st.pick ls bs = S := by kernel_rfl) : AT P cx ops ps n E st (fun s => s = S) := AT.done ls bs S hr hs rfl
theorem sL (m b : Nat) (S : St) (hk : LAt P cx ops i S K) (h : st.onlyM m b = S := by kernel_rfl) : LAt P cx ops i st K := by
 subst h; exact qi.sub (St.onlyM_sub m b st) hk
theorem sT (S : St) (hk : Tr P cx c S Q) (h : st = S := by kernel_rfl) : Tr P cx c st Q := tO S h hk
theorem AT.sub {ps : List Pin} {n : Nat} {E : List Nat} {S : St} (hs : S.sub st) (hk : AT P cx ops ps n E S K) : AT P cx ops ps n E st K := fun a w Z ω Q L Y hR => hk a w Z ω Q L Y (hR.sub hs)
theorem sA_ (m b : Nat) (S : St) {ps : List Pin} {n : Nat} {E : List Nat} (hk : AT P cx ops ps n E S K) (h : st.onlyM m b = S := by kernel_rfl) : AT P cx ops ps n E st K := by
 subst h; exact AT.sub (St.onlyM_sub m b st) hk
theorem St.sub_trans {a b c : St} (h1 : a.sub b) (h2 : b.sub c) : a.sub c := ⟨h1.1.trans h2.1,h1.2.1.trans h2.2.1,fun t sv h => h2.2.2.1 t sv (h1.2.2.1 t sv h),fun k cs h => h2.2.2.2 k cs (h1.2.2.2 k cs h)⟩
theorem sB' {ι : Type} {S : ι → St} {I : ι → Prop} (m b : Nat) (st' : St) (hk : ∃ i,I i ∧ (S i).sub st') (h : st.onlyM m b = st' := by kernel_rfl) : ∃ i,I i ∧ (S i).sub st := by
 subst h
 obtain ⟨i,h1,h2⟩ := hk
 exact ⟨i,h1,St.sub_trans h2 (St.onlyM_sub m b st)⟩
theorem sC' {ι : Type} {S : ι → St} {I M : ι → Prop} (m b : Nat) (st' : St) (hk : ∃ i,I i ∧ (M i ∧ (S i).sub st')) (h : st.onlyM m b = st' := by kernel_rfl) : ∃ i,I i ∧ (M i ∧ (S i).sub st) := by
 subst h
 obtain ⟨i,h1,h2,h3⟩ := hk
 exact ⟨i,h1,h2,St.sub_trans h3 (St.onlyM_sub m b st)⟩
theorem jA {ι : Type} {p : ι → Prop} {S : ι → St} (v : ι) (h : p v) (ls bs : List Nat) (hs : st.pick ls bs = S v := by kernel_rfl) : ∃ v,p v ∧ (S v).sub st := ⟨v,h,St.sub_of ls bs hs⟩
theorem jB {α : Type} {p : Nat × α → Prop} {S : Nat × α → St} (m : Nat) (v : α) (h : p (m,v)) (ls bs : List Nat) (hs : st.pick ls bs = S (m,v) := by kernel_rfl) : ∃ v,p v ∧ (v.1 < m + 1 ∧ (S v).sub st) := ⟨(m,v),h,Nat.lt_succ_self m,St.sub_of ls bs hs⟩
def dN (ops : Array Oper) (i : Nat) : Nat := (opD ops i).getD 0
def ixT (ops : Array Oper) (i : Nat) : TypeId := match opAt ops i with
 | some (.indexAddr t _ _,_,_,_) => t
 | _ => 0
def ixX (ops : Array Oper) (i : Nat) : Operand := match opAt ops i with
 | some (.indexAddr _ x _,_,_,_) => x
 | _ => .tmp 0
def ixY (ops : Array Oper) (i : Nat) : Operand := match opAt ops i with
 | some (.indexAddr _ _ y,_,_,_) => y
 | _ => .tmp 0
def slF (T : Nat → Option TI) (st : St) (t : TypeId) (x y : Operand) : Qk := match Jh T st t x y with
 | some p => p.1
 | none => ⟨.slot 0,[],0,false,0,[]⟩
def oSt (T : Nat → Option TI) (ops : Array Oper) (i : Nat) (st : St) (v : Int) : St := st.put (dN ops i) (.adr (slF T st (ixT ops i) (ixX ops i) (ixY ops i)).r ((slF T st (ixT ops i) (ixX ops i) (ixY ops i)).q ++ [((slF T st (ixT ops i) (ixX ops i) (ixY ops i)).o,v.toNat)]) (slF T st (ixT ops i) (ixX ops i) (ixY ops i)).sz 0)
theorem zHE {t : TypeId} {x y : Operand} {own : Bool} {es : List (List CV)} {v : Int} (h : (Jh T st t x y).map (fun p => (p.1.own,p.1.es,p.2)) = some (own,es,v)) : Jh T st t x y = some (slF T st t x y,v) ∧ (slF T st t x y).own = own ∧ (slF T st t x y).es = es := by
 unfold slF
 cases hc : Jh T st t x y with
 | none => rw [hc] at h; cases h
 | some p =>
  rw [hc] at h
  obtain ⟨s,j⟩ := p
  cases h
  exact ⟨rfl,rfl,rfl⟩
theorem oA [hT : TC P T] {α : Type} {L : List α} {v : Int} {e : α} (row : α → List CV) (hv : idx L v = some e) (hk : LAt P cx ops (i + 1) (oSt T ops i st v) K)
  (hop : opAt ops i = some (.indexAddr (ixT ops i) (ixX ops i) (ixY ops i),some (dN ops i),opY ops i,opG ops i) := by kernel_rfl) (hg : gdT ops st (opG ops i) = true := by kernel_rfl) (hd : zV st (dN ops i) = true := by kernel_rfl) (hq : (Jh T st (ixT ops i) (ixX ops i) (ixY ops i)).map (fun p => (p.1.own,p.1.es,p.2)) = some (true,L.map row,v) := by kernel_rfl)
  (hr : (slF T st (ixT ops i) (ixX ops i) (ixY ops i)).r.eqb (.slot (dN ops i)) = false := by kernel_rfl) : LAt P cx ops i st K := by
 obtain ⟨h1,h2,h3⟩ := zHE hq
 exact LAt.indexO hT.ok _ _ _ (row e) _ hop hg hd h1 h2 hr (by rw [h3]; exact YD hv) rfl rfl hk
theorem iA [hT : TC P T] {α : Type} {L : List α} {v : Int} {e : α} (row : α → List CV) (hv : idx L v = some e) (hk : LAt P cx ops (i + 1) (st.put (dN ops i) (.fad (CV.frzRow (row e)))) K)
  (hop : opAt ops i = some (.indexAddr (ixT ops i) (ixX ops i) (ixY ops i),some (dN ops i),opY ops i,opG ops i) := by kernel_rfl) (hg : gdT ops st (opG ops i) = true := by kernel_rfl) (hd : zV st (dN ops i) = true := by kernel_rfl) (hq : (Jh T st (ixT ops i) (ixX ops i) (ixY ops i)).map (fun p => (p.1.own,p.1.es,p.2)) = some (false,CV.frzEs (L.map row),v) := by kernel_rfl) : LAt P cx ops i st K := by
 obtain ⟨h1,h2,h3⟩ := zHE hq
 exact LAt.indexF hT.ok _ _ (CV.frzRow (row e)) _ hop hg hd h1 h2 (by rw [h3]; exact zHb hv) rfl hk
theorem oN [hT : TC P T] {t : Tab} (ht : zk ops t = true) {ps : List Pin} {n : Nat} {E : List Nat} {α : Type} {L : List α} {v : Int} {e : α} (i : Nat) (row : α → List CV) (hv : idx L v = some e) (hk : ∀ cx',AT P cx' ops ps n (i :: E) (oSt T ops i st v) K)
  (hop : opAt ops i = some (.indexAddr (ixT ops i) (ixX ops i) (ixY ops i),some (dN ops i),opY ops i,opG ops i) := by kernel_rfl) (hg : gdT ops st (opG ops i) = true := by kernel_rfl) (hd : zV st (dN ops i) = true := by kernel_rfl) (hok : okM t (zr E) E ps i [] = true := by kernel_rfl) (hdB : zDc t.sz (zr E) ps (some (dN ops i)) = true := by kernel_rfl) (hq : (Jh T st (ixT ops i) (ixX ops i) (ixY ops i)).map (fun p => (p.1.own,p.1.es,p.2)) = some (true,L.map row,v) := by kernel_rfl)
  (hr : (slF T st (ixT ops i) (ixX ops i) (ixY ops i)).r.eqb (.slot (dN ops i)) = false := by kernel_rfl) : AT P cx ops ps (n + 1) E st K := by
 obtain ⟨h1,h2,h3⟩ := zHE hq
 exact AT.indexO hT.ok i _ _ _ (row e) _ hop (oM ht hok) (dM ht hdB) hg hd h1 h2 hr (by rw [h3]; exact YD hv) rfl rfl hk
theorem iN [hT : TC P T] {t : Tab} (ht : zk ops t = true) {ps : List Pin} {n : Nat} {E : List Nat} {α : Type} {L : List α} {v : Int} {e : α} (i : Nat) (row : α → List CV) (hv : idx L v = some e) (hk : ∀ cx',AT P cx' ops ps n (i :: E) (st.put (dN ops i) (.fad (CV.frzRow (row e)))) K)
  (hop : opAt ops i = some (.indexAddr (ixT ops i) (ixX ops i) (ixY ops i),some (dN ops i),opY ops i,opG ops i) := by kernel_rfl) (hg : gdT ops st (opG ops i) = true := by kernel_rfl) (hd : zV st (dN ops i) = true := by kernel_rfl) (hok : okM t (zr E) E ps i [] = true := by kernel_rfl) (hdB : zDc t.sz (zr E) ps (some (dN ops i)) = true := by kernel_rfl) (hq : (Jh T st (ixT ops i) (ixX ops i) (ixY ops i)).map (fun p => (p.1.own,p.1.es,p.2)) = some (false,CV.frzEs (L.map row),v) := by kernel_rfl) : AT P cx ops ps (n + 1) E st K := by
 obtain ⟨h1,h2,h3⟩ := zHE hq
 exact AT.indexF hT.ok i _ _ (CV.frzRow (row e)) _ hop (oM ht hok) (dM ht hdB) hg hd h1 h2 (by rw [h3]; exact zHb hv) rfl hk
def lnX (ops : Array Oper) (i : Nat) : Operand := (Qh ops i).getD 0 (.tmp 0)
def lnT (ops : Array Oper) (i : Nat) : TypeId := (YA ops i).getD 0 0
theorem zIg {x : Operand} {es : List (List CV)} (h : (slS st x).map (fun s => s.es) = some es) : ∃ s,slS st x = some s ∧ s.es = es := by
 cases hc : slS st x with
 | none => rw [hc] at h; cases h
 | some s => rw [hc] at h; cases h; exact ⟨s,rfl,rfl⟩
theorem kO [hT : TC P T] {α : Type} (L : List α) (row : α → List CV) (hk : LAt P cx ops (i + 1) (st.put (dN ops i) (.val false [.lit (.int .i64 L.length)])) K)
  (hop : opAt ops i = some (.call { callee := .builtin .len,args := #[lnX ops i],argTypes := #[lnT ops i] },some (dN ops i),opY ops i,opG ops i) := by kernel_rfl) (hg : gdT ops st (opG ops i) = true := by kernel_rfl) (hd : zV st (dN ops i) = true := by kernel_rfl) (hs : (ZE T (lnT ops i)).isSome = true := by kernel_rfl) (hq : (slS st (lnX ops i)).map (fun s => s.es) = some (L.map row) := by kernel_rfl) : LAt P cx ops i st K := by
 obtain ⟨s,h1,h2⟩ := zIg hq
 obtain ⟨e,he⟩ := Option.isSome_iff_exists.1 hs
 exact LAt.lenE hT.ok s L.length _ hop hg hd he h1 (by rw [h2]; exact zD0 L row) rfl hk
theorem kON [hT : TC P T] {t : Tab} (ht : zk ops t = true) {ps : List Pin} {n : Nat} {E : List Nat} {α : Type} (i : Nat) (L : List α) (row : α → List CV) (hk : ∀ cx',AT P cx' ops ps n (i :: E) (st.put (dN ops i) (.val false [.lit (.int .i64 L.length)])) K)
  (hop : opAt ops i = some (.call { callee := .builtin .len,args := #[lnX ops i],argTypes := #[lnT ops i] },some (dN ops i),opY ops i,opG ops i) := by kernel_rfl) (hg : gdT ops st (opG ops i) = true := by kernel_rfl) (hd : zV st (dN ops i) = true := by kernel_rfl) (hs : (ZE T (lnT ops i)).isSome = true := by kernel_rfl) (hok : okM t (zr E) E ps i [] = true := by kernel_rfl) (hdB : zDc t.sz (zr E) ps (some (dN ops i)) = true := by kernel_rfl) (hq : (slS st (lnX ops i)).map (fun s => s.es) = some (L.map row) := by kernel_rfl) : AT P cx ops ps (n + 1) E st K := by
 obtain ⟨s,h1,h2⟩ := zIg hq
 obtain ⟨e,he⟩ := Option.isSome_iff_exists.1 hs
 exact AT.lenE hT.ok i s L.length _ hop (oM ht hok) (dM ht hdB) hg hd he h1 (by rw [h2]; exact zD0 L row) rfl hk
theorem kF [hT : TC P T] {α : Type} (L : List α) (row : α → List CV) (hk : LAt P cx ops (i + 1) (st.put (dN ops i) (.val false [.lit (.int .i64 L.length)])) K)
  (hop : opAt ops i = some (.call { callee := .builtin .len,args := #[lnX ops i],argTypes := #[lnT ops i] },some (dN ops i),opY ops i,opG ops i) := by kernel_rfl) (hg : gdT ops st (opG ops i) = true := by kernel_rfl) (hd : zV st (dN ops i) = true := by kernel_rfl) (hs : (ZE T (lnT ops i)).isSome = true := by kernel_rfl) (hq : (slS st (lnX ops i)).map (fun s => s.es) = some (CV.frzEs (L.map row)) := by kernel_rfl) : LAt P cx ops i st K := by
 obtain ⟨s,h1,h2⟩ := zIg hq
 obtain ⟨e,he⟩ := Option.isSome_iff_exists.1 hs
 exact LAt.lenE hT.ok s L.length _ hop hg hd he h1 (by rw [h2]; exact zFc L row) rfl hk
theorem kFN [hT : TC P T] {t : Tab} (ht : zk ops t = true) {ps : List Pin} {n : Nat} {E : List Nat} {α : Type} (i : Nat) (L : List α) (row : α → List CV) (hk : ∀ cx',AT P cx' ops ps n (i :: E) (st.put (dN ops i) (.val false [.lit (.int .i64 L.length)])) K)
  (hop : opAt ops i = some (.call { callee := .builtin .len,args := #[lnX ops i],argTypes := #[lnT ops i] },some (dN ops i),opY ops i,opG ops i) := by kernel_rfl) (hg : gdT ops st (opG ops i) = true := by kernel_rfl) (hd : zV st (dN ops i) = true := by kernel_rfl) (hs : (ZE T (lnT ops i)).isSome = true := by kernel_rfl) (hok : okM t (zr E) E ps i [] = true := by kernel_rfl) (hdB : zDc t.sz (zr E) ps (some (dN ops i)) = true := by kernel_rfl) (hq : (slS st (lnX ops i)).map (fun s => s.es) = some (CV.frzEs (L.map row)) := by kernel_rfl) : AT P cx ops ps (n + 1) E st K := by
 obtain ⟨s,h1,h2⟩ := zIg hq
 obtain ⟨e,he⟩ := Option.isSome_iff_exists.1 hs
 exact AT.lenE hT.ok i s L.length _ hop (oM ht hok) (dM ht hdB) hg hd he h1 (by rw [h2]; exact zFc L row) rfl hk
def apX (ops : Array Oper) (i : Nat) : Operand := (Qh ops i).getD 0 (.tmp 0)
def apY (ops : Array Oper) (i : Nat) : Operand := (Qh ops i).getD 1 (.tmp 0)
def elT (T : Nat → Option TI) (t : TypeId) : TI := match ZE T t with
 | some e => (T e).getD ⟨.bool,1,1,[]⟩
 | none => ⟨.bool,1,1,[]⟩
theorem zMn {t : TypeId} (h : ((ZE T t).bind T).isSome = true) : ∃ e,ZE T t = some e ∧ T e = some (elT T t) := by
 unfold elT
 cases hc : ZE T t with
 | none => rw [hc] at h; cases h
 | some e =>
  rw [hc] at h
  cases he : T e with
  | none => simp [he] at h
  | some ie => exact ⟨e,rfl,by simp [he]⟩
theorem pD [hT : TC P T] {α : Type} (row : α → List CV) {X Y : List α} (hG : decide (X.length + Y.length ≤ 268435456) = true) (hk : LAt P cx ops (i + 1) ((qt T st (lnT ops i) (apX ops i)).put (dN ops i) (.val false [.sl true (elT T (lnT ops i)).size ((X ++ Y).map row)])) K)
  (hop : opAt ops i = some (.call { callee := .builtin .append,args := #[apX ops i,apY ops i],argTypes := #[lnT ops i,lnT ops i] },some (dN ops i),opY ops i,opG ops i) := by kernel_rfl) (hg : gdT ops st (opG ops i) = true := by kernel_rfl) (hd : zV st (dN ops i) = true := by kernel_rfl) (hs : ((ZE T (lnT ops i)).bind T).isSome = true := by kernel_rfl)
  (hpos : Nat.ble 1 (elT T (lnT ops i)).size = true := by kernel_rfl) (hby : Nat.ble (elT T (lnT ops i)).bytes 524288 = true := by kernel_rfl) (hx : (qr T st (lnT ops i) (apX ops i)).map (fun tk => (tk.ag,tk.cs)) = some (false,[.sl true (elT T (lnT ops i)).size (X.map row)]) := by kernel_rfl) (hd' : zV (qt T st (lnT ops i) (apX ops i)) (dN ops i) = true := by kernel_rfl)
  (hy : (slS (qt T st (lnT ops i) (apX ops i)) (apY ops i)).map (fun s => (s.sz,s.es)) = some ((elT T (lnT ops i)).size,CV.frzEs (Y.map row)) := by kernel_rfl) (hflat : ∀ v,CV.flatRow (row v) = true := by intro _; rfl) (hfrz : ∀ v,CV.frzRow (row v) = row v := by intro _; rfl) : LAt P cx ops i st K := by
 obtain ⟨e,h1,h2⟩ := zMn hs
 cases hc : slS (qt T st (lnT ops i) (apX ops i)) (apY ops i) with
 | none => rw [hc] at hy; cases hy
 | some s =>
  rw [hc] at hy
  simp only [Option.map_some,Option.some.injEq,Prod.mk.injEq] at hy
  exact LAt.appCU hT.ok _ row X Y s hop hg hd h1 h2 hpos hby hx hd' hc (by rw [hy.1]; exact Nat.beq_refl _) (.inr hy.2) hflat hfrz hG hk
def stT (ops : Array Oper) (i : Nat) : TypeId := match opAt ops i with
 | some (.store t _ _,_,_,_) => t
 | _ => 0
def stA (ops : Array Oper) (i : Nat) : Operand := match opAt ops i with
 | some (.store _ a _,_,_,_) => a
 | _ => .tmp 0
def stX (ops : Array Oper) (i : Nat) : Operand := match opAt ops i with
 | some (.store _ _ x,_,_,_) => x
 | _ => .tmp 0
theorem sS [hT : TC P T] {n : Nat} (i : TI) (ag : Bool) (tcs : List CV) (k o2 j m o sz : Nat) {α : Type} {L : List α} (row : α → List CV) {el : α} (new : α) (he : L[j]? = some el) (hk : LAt P cx ops (n + 1) (zH1 (CV.flatRow tcs) (qt T st (stT ops n) (stX ops n)) (.slot k) 1 o2 (.sl true sz ((L.set j new).map row))) K)
  (hop : opAt ops n = some (.store (stT ops n) (stA ops n) (stX ops n),none,opY ops n,opG ops n) := by kernel_rfl) (hg : gdT ops st (opG ops n) = true := by kernel_rfl) (ht : T (stT ops n) = some i := by kernel_rfl) (hx : (qr T st (stT ops n) (stX ops n)).map (fun tk => (tk.ag,tk.cs)) = some (ag,tcs) := by kernel_rfl) (hl : (tcs.length == i.size) = true := by kernel_rfl)
  (ha : zDG (qt T st (stT ops n) (stX ops n)) (stA ops n) = some (.slot k,[(o2,j)],m,o,zA8 (qt T st (stT ops n) (stX ops n)) (.slot k)) := by kernel_rfl) (hrr : zAC (qt T st (stT ops n) (stX ops n)) (.slot k) = some (zA8 (qt T st (stT ops n) (stX ops n)) (.slot k)) := by kernel_rfl)
  (hc : (zA8 (qt T st (stT ops n) (stX ops n)) (.slot k))[o2]? = some (.sl true sz (L.map row)) := by kernel_rfl) (hm : (row el).length = m := by kernel_rfl) (hle : Nat.ble (o + i.size) m = true := by kernel_rfl) (hf : setAt o tcs (row el) = row new := by kernel_rfl)
  (hst : ((qt T st (stT ops n) (stX ops n)).modRK (CV.flatRow tcs) (.slot k) 1 ((zA8 (qt T st (stT ops n) (stX ops n)) (.slot k)).set o2 (.sl true sz ((L.set j new).map row)))).isSome = true := by kernel_rfl) : LAt P cx ops n st K :=
 LAt.storeS hT.ok i ag tcs k o2 j m o sz L row el new hop hg ht hx hl ha hrr hc he hm hle hf hst hk
def zEC : List Ret → List (Bool × List CV)
 | .val a cs :: l => (a,cs) :: zEC l
 | _ => []
theorem cA [hT : TC P T] {f : FuncId} {fn : Func} (hf : P.funcs[f]? = some fn) (c : Code) (rs : List ResultVar) {args : List qS} {rets : List Ret} (h : ∀ cx, Tr P cx c (zDx fn.ntmps 0 args) (zLR T rs args [] (zEC rets) [] [])) (hname : (fn.name == "runtime.NumGoroutine") = false := by rfl) (hb : fn.body = some c := by kernel_rfl)
  (hn : Nat.ble args.length fn.ntmps = true := by kernel_rfl) (hrs : fn.results.toList = rs := by rfl) (hv : (zEC rets).map (fun x => Ret.val x.1 x.2) = rets := by rfl) : zG P f args rets [] := by
 have := zG.of_body hT.ok hf hname hb (Nat.le_of_ble_eq_true hn) 0 hrs [] .nil (zEC rets) [] [] h
 rw [hv] at this
 exact this
def ldT (ops : Array Oper) (i : Nat) : TypeId := match opAt ops i with
 | some (.load t _,_,_,_) => t
 | _ => 0
def ldX (ops : Array Oper) (i : Nat) : Operand := match opAt ops i with
 | some (.load _ x,_,_,_) => x
 | _ => .tmp 0
theorem bs {α β : Type} {o : Option α} {f : α → Option β} {b : β} (h : o.bind f = some b) : ∃ a,o = some a ∧ f a = some b := bind_some h
theorem gs {α : Type} {b : Bool} {x : Option α} {y : α} (h : (bif b then x else none) = some y) : b = true ∧ x = some y := zGw h
theorem nN {α : Type} {a : α} {p : Prop} (h : none = some a) : p := nomatch h
theorem dE [hT : TC P T] (i' : TI) (r : zD) (q : List (Nat × Nat)) (m o : Nat) (row e : List CV) (hge : qf row q = some e) (hk : LAt P cx ops (i + 1) (st.put (dN ops i) (bif CV.flatRow ((e.drop o).take i'.size) then .val i'.ag ((e.drop o).take i'.size) else .ref r q m o i'.size i'.ag)) K)
  (hop : opAt ops i = some (.load (ldT ops i) (ldX ops i),some (dN ops i),opY ops i,opG ops i) := by kernel_rfl) (hg : gdT ops st (opG ops i) = true := by kernel_rfl) (hd : zV st (dN ops i) = true := by kernel_rfl) (ht : T (ldT ops i) = some i' := by kernel_rfl) (hx : zDG st (ldX ops i) = some (r,q,m,o,row) := by kernel_rfl) (hm : e.length = m := by kernel_rfl)
  (hq : q.isEmpty = false := by kernel_rfl) (hr : r.eqb (.slot (dN ops i)) = false := by kernel_rfl) (hl : (((e.drop o).take i'.size).length == i'.size) = true := by kernel_rfl) : LAt P cx ops i st K :=
 LAt.loadE hT.ok i' r q m o row e _ hop hg hd ht hx hge hm (by intro h; rw [h] at hq; cases hq) hr hl rfl hk
end Go.TL
