import Derived.WalkKit
import Derived.Below
import Derived.OrdersHeld
namespace Go.TL
abbrev Zu:=List Nat
abbrev Own:=Nat→Option Zu
abbrev JI:=Nat→Prop
inductive CV where
 |lit (v:Value)
 |sl (own:Bool) (sz:Nat) (es:List (List CV))
 |dead
def elC(es:List (List CV))(i j:Nat):Option CV:=(es[i]?).bind (·[j]?)
theorem zQC{es:List (List CV)}{i j:Nat}{c:CV}(h:elC es i j=some c):es≠ []:=by
 intro e;subst e;simp[elC]at h
def CV.flat:CV→Bool
 |.lit _=>true
 |.sl own _ _=> !own
 |.dead=>true
def zZ:List CV→Bool
 |[]=>true
 |c::cs=>c.flat&&zZ cs
theorem qp(cs:List CV):zZ cs=cs.all CV.flat:=by
 induction cs with
 |nil=>rfl
 |cons c cs ih=>simp only[zZ,List.all_cons,ih]
inductive Qg (w:World) (Z:JI) (ω:Own):Zu→Value→CV→Prop
 |lit (p:Zu) (v:Value) (h:v.oneCell'=true):Qg w Z ω p v (.lit v)
 |dead (p:Zu) (v:Value) (h:v.oneCell'=true):Qg w Z ω p v .dead
 |nil (p:Zu) (own:Bool) (sz:Nat):Qg w Z ω p (.slice none 0 0) (.sl own sz [])
 | fro (p : Zu) (a : Addr) (cap sz : Nat) (es : List (List CV)) (us : Nat → Nat → Value)
   (hs:es≠ []→a.spot=none) (hZ:es≠ []→Z a.block) (hcap:es.length≤cap) (hm:cap≤maxLen) (hsz:∀e∈es,e.length=sz) (hf:∀i j c,elC es i j=some c→c.flat=true)
   (hc:∀i j c,elC es i j=some c→w.cell? ⟨a.block,a.off+(i*sz+j),none⟩=some (us i j))
   (hr:∀i j c,elC es i j=some c→Qg w Z ω (p++[i,j]) (us i j) c):
   Qg w Z ω p (.slice (some a) es.length cap) (.sl false sz es)
 | own (p : Zu) (b cap sz : Nat) (es : List (List CV)) (us : Nat → Nat → Value) (cur : Array Value) (T : TypeId)
   (hω:ω b=some p) (hb:w.heap[b]? =some (.cells cur T (0,0))) (hcap:es.length≤cap) (hm:cap≤maxLen) (hcs:cur.size=cap*sz) (hsz:∀e∈es,e.length=sz)
   (hc:∀i j c,elC es i j=some c→cur[i*sz+j]? =some (us i j))
   (hr:∀i j c,elC es i j=some c→Qg w Z ω (p++[i,j]) (us i j) c):
   Qg w Z ω p (.slice (some ⟨b,0,none⟩) es.length cap) (.sl true sz es)
theorem Qg.one{w Z ω p v c}(h:Qg w Z ω p v c):v.oneCell'=true:=by
 cases h<;>first|assumption|rfl
theorem Qg.conv{w w':World}{Z Z':JI}{ω ω':Own}{p:Zu}{v:Value}{c:CV}(h:Qg w Z ω p v c):
  ∀p',(∀b,Z b→Z' b∧w'.heap[b]? =w.heap[b]?)→(∀b r,ω b=some (p++r)→ω' b=some (p'++r)∧w'.heap[b]? =w.heap[b]?)→Qg w' Z' ω' p' v c:=by
 induction h with
 |lit p v h=>exact fun p' _ _=>.lit p' v h
 |dead p v h=>exact fun p' _ _=>.dead p' v h
 |nil p own sz=>exact fun p' _ _=>.nil p' own sz
 | fro p a cap sz es us hs hZ hcap hm hsz hf hc hr ih =>
  intro p' h1 h2
  refine .fro p' a cap sz es us hs (fun hne=>(h1 _ (hZ hne)).1) hcap hm hsz hf (fun i j c hij=>?_) (fun i j c hij=>?_)
  ·rw[←hc i j c hij]
   exact World.cell?_of_block (h1 _ (hZ (zQC hij))).2
  ·refine ih i j c hij _ h1 fun b r hb=>?_
   have:=h2 b ([i,j]++r) (by rw[hb,List.append_assoc])
   rw[this.1,List.append_assoc]
   exact⟨rfl,this.2⟩
 |own p b cap sz es us cur T hω hb hcap hm hcs hsz hc hr ih=>
  intro p' h1 h2
  have h0:=h2 b [] (by rw[hω,List.append_nil])
  rw[List.append_nil]at h0
  refine .own p' b cap sz es us cur T h0.1 (h0.2.trans hb) hcap hm hcs hsz hc (fun i j c hij=>?_)
  refine ih i j c hij _ h1 fun b r hb=>?_
  have:=h2 b ([i,j]++r) (by rw[hb,List.append_assoc])
  rw[this.1,List.append_assoc]
  exact⟨rfl,this.2⟩
mutual
def CV.frz:CV→CV
 |.lit v=>.lit v
 |.sl _ sz es=>.sl false sz (zQ es)
 |.dead=>.dead
def zQ:List (List CV)→List (List CV)
 |[]=>[]
 |e::es=>qh e::zQ es
def qh:List CV→List CV
 |[]=>[]
 |c::cs=>c.frz::qh cs
end
theorem CV.frz_flat(c:CV):c.frz.flat=true:=by cases c<;>rfl
theorem QC(cs:List CV):qh cs=cs.map CV.frz:=by
 induction cs with
 |nil=>rfl
 |cons c cs ih=>simp only[qh,List.map_cons,ih]
theorem CV.frzEs_eq(es:List (List CV)):zQ es=es.map qh:=by
 induction es with
 |nil=>rfl
 |cons c cs ih=>simp only[zQ,List.map_cons,ih]
theorem CV.frzEs_length(es:List (List CV)):(zQ es).length=es.length:=by rw[frzEs_eq,List.length_map]
theorem zSi(es:List (List CV))(i j:Nat):elC (zQ es) i j=(elC es i j).map CV.frz:=by
 unfold elC
 rw[CV.frzEs_eq,List.getElem?_map]
 cases es[i]? with
 |none=>rfl
 |some e=>simp[QC]
theorem JY{es:List (List CV)}{i j:Nat}{c:CV}(h:elC (zQ es) i j=some c):∃c0,elC es i j=some c0∧c0.frz=c:=by
 rw[zSi]at h
 cases h0:elC es i j with
 |none=>rw[h0]at h;cases h
 |some c0=>rw[h0]at h;exact⟨c0,rfl,by simpa using h⟩
theorem Qg.freeze{w w':World}{Z Z':JI}{ω ω':Own}{p:Zu}{v:Value}{c:CV}(h:Qg w Z ω p v c):
  ∀p',(∀b,Z b→Z' b∧w'.heap[b]? =w.heap[b]?)→(∀b r,ω b=some (p++r)→Z' b∧w'.heap[b]? =w.heap[b]?)→Qg w' Z' ω' p' v c.frz:=by
 induction h with
 |lit p v h=>exact fun p' _ _=>.lit p' v h
 |dead p v h=>exact fun p' _ _=>.dead p' v h
 |nil p own sz=>exact fun p' _ _=>.nil p' false sz
 | fro p a cap sz es us hs hZ hcap hm hsz hf hc hr ih =>
  intro p' h1 h2
  simp only[CV.frz]
  rw[←CV.frzEs_length es]
  refine .fro p' a cap sz _ us (fun hne=>hs (fun e=>by subst e;exact hne rfl)) (fun hne=>(h1 _ (hZ (fun e=>by subst e;exact hne rfl))).1) (by rw[CV.frzEs_length];exact hcap) hm ?_ (fun i j c hij=>by obtain⟨c0,_,rfl⟩:=JY hij;exact c0.frz_flat) (fun i j c hij=>?_) (fun i j c hij=>?_)
  ·intro e he
   rw[CV.frzEs_eq,List.mem_map]at he
   obtain⟨e0,he0,rfl⟩:=he
   rw[QC,List.length_map]
   exact hsz e0 he0
  ·obtain⟨c0,h0,rfl⟩:=JY hij
   rw[←hc i j c0 h0]
   exact World.cell?_of_block (h1 _ (hZ (zQC h0))).2
  ·obtain⟨c0,h0,rfl⟩:=JY hij
   refine ih i j c0 h0 _ h1 fun b r hb=>?_
   exact h2 b ([i,j]++r) (by rw[hb,List.append_assoc])
 | own p b cap sz es us cur T hω hb hcap hm hcs hsz hc hr ih =>
  intro p' h1 h2
  have h0:=h2 b [] (by rw[hω,List.append_nil])
  simp only[CV.frz]
  rw[←CV.frzEs_length es]
  refine .fro p' ⟨b,0,none⟩ cap sz _ us (fun _=>rfl) (fun _=>h0.1) (by rw[CV.frzEs_length];exact hcap) hm ?_ (fun i j c hij=>by obtain⟨c0,_,rfl⟩:=JY hij;exact c0.frz_flat) (fun i j c hij=>?_) (fun i j c hij=>?_)
  ·intro e he
   rw[CV.frzEs_eq,List.mem_map]at he
   obtain⟨e0,he0,rfl⟩:=he
   rw[QC,List.length_map]
   exact hsz e0 he0
  ·obtain⟨c0,hc0,rfl⟩:=JY hij
   have:=hc i j c0 hc0
   simp only[Nat.zero_add]
   rw[World.cell?]
   simp only[h0.2,hb]
   simpa using this
  ·obtain⟨c0,hc0,rfl⟩:=JY hij
   refine ih i j c0 hc0 _ h1 fun b r hb=>?_
   exact h2 b ([i,j]++r) (by rw[hb,List.append_assoc])
theorem Qg.flat_conv{w w':World}{Z Z':JI}{ω ω':Own}{p:Zu}{v:Value}{c:CV}(h:Qg w Z ω p v c):
  c.flat=true→∀p',(∀b,Z b→Z' b∧w'.heap[b]? =w.heap[b]?)→Qg w' Z' ω' p' v c:=by
 induction h with
 |lit p v h=>exact fun _ p' _=>.lit p' v h
 |dead p v h=>exact fun _ p' _=>.dead p' v h
 |nil p own sz=>exact fun _ p' _=>.nil p' own sz
 | fro p a cap sz es us hs hZ hcap hm hsz hf hc hr ih =>
  intro _ p' h1
  refine .fro p' a cap sz es us hs (fun hne=>(h1 _ (hZ hne)).1) hcap hm hsz hf (fun i j c hij=>?_) (fun i j c hij=>?_)
  ·rw[←hc i j c hij]
   exact World.cell?_of_block (h1 _ (hZ (zQC hij))).2
  ·exact ih i j c hij (hf i j c hij) _ h1
 |own p b cap sz es us cur T hω hb hcap hm hcs hsz hc hr ih=>
  intro hf
  simp[CV.flat]at hf
def Ze(w:World)(Z:JI)(ω:Own)(p:Zu)(us:List Value)(cs:List CV):Prop:=
 us.length=cs.length∧∀(j:Nat) c u,cs[j]? =some c→us[j]? =some u→Qg w Z ω (p++[j]) u c
theorem Ze.get{w Z ω p us cs}(h:Ze w Z ω p us cs){j:Nat}{c:CV}(hc:cs[j]? =some c):∃u,us[j]? =some u∧Qg w Z ω (p++[j]) u c:=by
 have hj:j<us.length:=by rw[h.1];exact(List.getElem?_eq_some_iff.1 hc).1
 exact⟨us[j],List.getElem?_eq_getElem hj,h.2 j c _ hc (List.getElem?_eq_getElem hj)⟩
theorem Ze.conv{w w':World}{Z Z':JI}{ω ω':Own}{p:Zu}{us:List Value}{cs:List CV}(h:Ze w Z ω p us cs)(p':Zu)
  (h1:∀b,Z b→Z' b∧w'.heap[b]? =w.heap[b]?) (h2:∀b r,ω b=some (p++r)→ω' b=some (p'++r)∧w'.heap[b]? =w.heap[b]?):Ze w' Z' ω' p' us cs:=by
 refine⟨h.1,fun j c u hc hu=>(h.2 j c u hc hu).conv _ h1 fun b r hb=>?_⟩
 have:=h2 b ([j]++r) (by rw[hb,List.append_assoc])
 rw[this.1,List.append_assoc]
 exact⟨rfl,this.2⟩
theorem Ze.freeze{w w':World}{Z Z':JI}{ω ω':Own}{p:Zu}{us:List Value}{cs:List CV}(h:Ze w Z ω p us cs)(p':Zu)
  (h1:∀b,Z b→Z' b∧w'.heap[b]? =w.heap[b]?) (h2:∀b r,ω b=some (p++r)→Z' b∧w'.heap[b]? =w.heap[b]?):Ze w' Z' ω' p' us (qh cs):=by
 refine⟨by rw[QC,List.length_map];exact h.1,fun j c u hc hu=>?_⟩
 rw[QC,List.getElem?_map]at hc
 cases h0:cs[j]? with
 |none=>rw[h0]at hc;cases hc
 |some c0=>
  rw[h0]at hc
  have:c0.frz=c:=by simpa using hc
  subst this
  exact(h.2 j c0 u h0 hu).freeze _ h1 fun b r hb=>h2 b ([j]++r) (by rw[hb,List.append_assoc])
theorem Ze.flat_conv{w w':World}{Z Z':JI}{ω ω':Own}{p:Zu}{us:List Value}{cs:List CV}(h:Ze w Z ω p us cs)(hf:zZ cs=true)(p':Zu)
  (h1:∀b,Z b→Z' b∧w'.heap[b]? =w.heap[b]?):Ze w' Z' ω' p' us cs:=by
 rw[qp,List.all_eq_true]at hf
 exact⟨h.1,fun j c u hc hu=>(h.2 j c u hc hu).flat_conv (hf c (List.mem_of_getElem? hc)) _ h1⟩
end Go.TL
