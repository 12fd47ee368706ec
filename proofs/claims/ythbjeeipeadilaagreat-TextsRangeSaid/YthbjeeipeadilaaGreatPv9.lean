/- The walk over pure values: from a contract to what a row asks. -/
import Derived.Test.YthbjeeipeadilaaGreatPv5
set_option linter.unusedSimpArgs false
set_option linter.unusedVariables false
namespace Go.Pv
open Go Go.RowKit
variable {P : Program}

theorem FnC.calls {f : FuncId} {fn : Func} {c : Code} {ds : List DV} (h : FnC P f ds (· = .bool true)) (hf : P.funcs[f]? = some fn) (hb : fn.body = some c) (hname : (fn.name == "runtime.NumGoroutine") = false)
    (w : World) (vs : Array Value) (hs : vs.size = ds.length) (hr : ∀ (i : Nat) (v : Value) (d : DV), vs[i]? = some v → ds[i]? = some d → Rep (fun b => w.heap[b]?) (fun _ => .no) v d) :
    Calls P f vs w fun e w' => e = .returned (.bool true) ∧ Below w.heap.size w w' := by
  rcases h.2.2 w (fun b => w.heap[b]?) vs (fun _ _ e => e) hs hr with ⟨_, _, _, _, _, hc⟩ | ⟨v, w', hrun, _⟩
  · refine hc.mono fun e w' ⟨v, he, d, h', hd, hrep, hbel, _⟩ => ⟨?_, hbel⟩
    subst hd
    rw [he, show v = .bool true from rep_toV rfl hrep]
  · exfalso
    have hne : fn.name ≠ "runtime.NumGoroutine" := by simpa using hname
    simp [callFunc, hf, hne, hb] at hrun

end Go.Pv
