import Derived.Test.YtajadnlejdpceaaTlU8
set_option linter.unusedVariables false
namespace Go.TL
open Go
theorem zIh {st : St} {t m o sz : Nat} {r : zF} {q : List (Nat × Nat)} {own : Bool} {row e : List CV} {es : List (List CV)} (h1 : lk st.s t = some (.ref r q m o 1 false)) (hr : rowOf st r = some row) (hg : qB row q = some e) (hm : e.length = m) (he : e[o]? = some (.sl own sz es)) : slS st (.tmp t) = some ⟨r,q,o,own,sz,es⟩ := by
 have hc : (q.isEmpty || e.length == m) = true := by rw [hm]; simp
 simp only [slS,h1,hr,hg,hc,cond_true,he]
end Go.TL
