import Derived.Test.YticeglbllcelaaaGreatTlX
import Derived.Laws.StructEq
set_option linter.unusedVariables false
namespace Go.TL
def zRP(P:Program)(t:TypeId)(cs:Array Value)(off:Nat):Option Value:=match P.underlying t with
 |some (.struct _)=>match P.info? t with
  |some i=>some (.agg (cs.extract off (off+i.size)))
  |none=>none
 |some (.int _)|some .bool=>cs[off]?
 |_=>none
theorem zNY{P:Program}{t:TypeId}{cs:Array Value}{off:Nat}{v:Value}(h:zRP P t cs off=some v)(w:World):(part t cs off).run P w=.ok v w:=by
 unfold zRP at h
 split at h
 ·rename_i fs hu
  split at h
  ·rename_i i hi
   cases h
   simp[part,isAgg,run_underlying hu,sizeOf,typeInfo,hi]
  ·cases h
 ·rename_i k hu
  simp[part,isAgg,run_underlying hu,h]
 ·rename_i hu
  simp[part,isAgg,run_underlying hu,h]
 ·cases h
def eqF(P:Program)(g:TypeId→Value→Value→Option Bool)(xs ys:Array Value):List Field→Option Bool
 |[]=>some true
 | f :: fs => bif f.name == "_" then eqF P g xs ys fs else match zRP P f.type xs f.offset with
  | some a => match zRP P f.type ys f.offset with
   | some b => match g f.type a b with
    |some r=>match eqF P g xs ys fs with
     |some s=>some (r&&s)
     |none=>none
    |none=>none
   |none=>none
  |none=>none
def eqE(P:Program):Nat→TypeId→Value→Value→Option Bool
 |0,_,_,_=>none
 | d + 1,t,x,y => match P.underlying t with
  |some .bool=>match x,y with
   |.bool a,.bool b=>some (a==b)
   |_,_=>none
  |some (.int _)=>match x,y with
   |.int k a,.int k' b=>bif eqK k k' then some (a==b)else none
   |_,_=>none
  |some (.struct fs)=>match x,y with
   |.agg xs,.agg ys=>bif P.stoodInHeld t then none else eqF P (eqE P d) xs ys fs.toList
   |_,_=>none
  |_=>none
theorem zOE{P:Program}{g:TypeId→Value→Value→Option Bool}{n:Nat}{w:World}(hg:∀t a b r,g t a b=some r→(Op.equalIn n t a b).run P w=.ok r w){xs ys:Array Value} :
  ∀ {fs:List Field} {r:Bool},eqF P g xs ys fs=some r→(Op.eqFields n xs ys fs).run P w=.ok r w
 |[],r,h=>by cases h;simp[Op.eqFields]
 | f :: fs,r,h => by
  simp only[eqF]at h
  cases hn : f.name == "_" with
  |true=>
   simp only[hn,cond_true]at h
   have hn' : ¬ (f.name ≠ "_") := by simpa using hn
   rw[Op.eqFields,if_neg hn']
   exact zOE hg h
  | false =>
   simp only[hn,cond_false]at h
   have hn' : f.name ≠ "_" := by simpa using hn
   split at h
   ·rename_i a ha
    split at h
    ·rename_i b hb
     split at h
     ·rename_i r1 hr
      split at h
      ·rename_i s hs
       cases h
       rw[Op.eqFields,if_pos hn']
       simp only[Sem.run_bind,zNY ha w,zNY hb w,hg _ _ _ _ hr,Result.andThen_ok]
       cases r1
       ·simp
       ·simpa using zOE hg hs
      ·cases h
     ·cases h
    ·cases h
   ·cases h
theorem zSj{P:Program}{w:World} :∀ {d n:Nat} {t:TypeId} {x y:Value} {r:Bool},eqE P d t x y=some r→d≤n→(Op.equalIn n t x y).run P w=.ok r w:=by
 intro d
 induction d with
 |zero=>intro n t x y r h _;cases h
 | succ d ih =>
  intro n t x y r h hn
  obtain⟨n,rfl⟩:∃m,n=m+1:=⟨n-1,by omega⟩
  simp only[eqE]at h
  split at h
  ·rename_i hu
   split at h
   ·cases h;exact run_equalIn_bool' w n t _ _ hu
   ·cases h
  ·rename_i k0 hu
   split at h
   ·rename_i k a k' b
    cases hk:eqK k k' with
    |false=>simp[hk]at h
    |true=>
     simp only[hk,cond_true,Option.some.injEq]at h
     subst h
     rw[zLx hk]
     exact run_equalIn_int w n t k' k0 a b hu
   ·cases h
  ·rename_i fs hu
   split at h
   ·rename_i xs ys
    cases hp:P.stoodInHeld t with
    |true=>simp[hp]at h
    |false=>
     simp only[hp,cond_false]at h
     have hf:P.fieldsOf t=fs:=by simp[Program.fieldsOf,hu]
     rw[run_equalIn_agg w n t xs ys (by rw[hf];exact hu) hp,hf]
     exact zOE (fun t a b r hr=>ih hr (by omega)) h
   ·cases h
  ·cases h
def eqS(P:Program)(st:St)(t:TypeId)(x y:Operand):Option Bool:=bif P.eqGuardType P.depth t then none else match zSC st x with
 |some vx=>match zSC st y with
  |some vy=>eqE P 20 t (.agg vx.toArray) (.agg vy.toArray)
  |none=>none
 |none=>none
theorem zTn{P:Program}{cx:Cx}{st:St}{o:Oper}{neg:Bool}{t ty:TypeId}{x y:Operand}{d:Nat}{b:Bool}
  (ho:o.op=.binOp (bif neg then .neq else .eql) t x y ty) (hdst:o.dst=some d) (hd:Zx st d=true) (hb:eqS P st t x y=some b):
  zCN P cx o st (st.put d (.val false [.lit (.bool (bif neg then !b else b))])):=by
 unfold eqS at hb
 cases hg:P.eqGuardType P.depth t with
 |true=>simp[hg]at hb
 | false =>
  simp only[hg,cond_false]at hb
  split at hb
  ·rename_i vx hx
   split at hb
   ·rename_i vy hy
    refine zTm ho hdst hd hx hy fun w=>?_
    have h1:=zSj (n:=10000) (w:=w) hb (by decide)
    cases neg with
    |false=>
     simp only[cond_false]
     simp only[Sem.run_bind,run_eqGuard_agg (P:=P) w _ t x y _ _ hg,Result.andThen_ok,run_eql_struct,h1]
    |true=>
     simp only[cond_true]
     simp only[Sem.run_bind,run_eqGuard_agg (P:=P) w _ t x y _ _ hg,Result.andThen_ok,run_neq_struct,h1]
   ·cases hb
  ·cases hb
end Go.TL
