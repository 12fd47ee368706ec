/- What is known of the functions without bodies that a closed run comes to. -/
import Derived.Test.YthbjeeipeadilaaGreatIC
namespace Go.Proofs.YthbjeeipeadilaaGreat
open Go Go.Pv Go.RowKit
set_option linter.unusedSimpArgs false
set_option linter.unusedVariables false
set_option maxRecDepth 10000

theorem one_v {h : Hp} {β : Nat → Bl} {vs : Array Value} {d : DV} {v : Value} (hd : toV d = some v) (hs : vs.size = [d].length) (hr : ∀ (i : Nat) (v : Value) (e : DV), vs[i]? = some v → [d][i]? = some e → Rep h β v e) : vs = #[v] := by
  have hlt : 0 < vs.size := by simp at hs; omega
  have r := hr 0 _ d (Array.getElem?_eq_getElem hlt) rfl
  have e := rep_toV hd r
  apply Array.ext_getElem?
  intro i
  cases i with
  | zero => rw [Array.getElem?_eq_getElem hlt, e]; rfl
  | succ i => rw [Array.getElem?_eq_none (by simp at hs; omega)]; simp
theorem bitsS (b : Nat) (σ : Objs) : FnS Tryz.prog 169 [.flt .f64 b] σ (fun d s => d = .int .u64 b ∧ s = σ) := by
  intro w0 h0 β0 vs hi hsz hrep
  obtain rfl := one_v (v := .float .f64 b) rfl hsz hrep
  refine .inr ⟨.int .u64 b, w0, ?_, _, σ, h0, β0, ⟨rfl, rfl⟩, hi, .int _ _⟩
  rw [run_callFunc_extern Tryz.func169 (by kernel_rfl) (by kernel_rfl) (by kernel_rfl) (e := Extern.MathFloatBits.float64bits) (by kernel_rfl)]; rfl
def extX : CallX := fun f ds σ =>
  bif Nat.beq f 169 then
    (match ds with
     | [.flt .f64 b] => some (.int .u64 b, σ)
     | _ => none)
  else cloneX f ds σ
theorem extOK : CallOK Tryz.prog extX := by
  intro f ds σ d σ' h
  unfold extX at h
  cases hf : Nat.beq f 169 with
  | false => rw [hf] at h; exact cloneOK f ds σ d σ' h
  | true =>
    rw [hf] at h
    have hf := Nat.eq_of_beq_eq_true hf
    subst hf
    simp only [cond_true] at h
    split at h
    · rename_i b
      injection h with h
      injection h with h1 h2
      subst h1; subst h2
      exact bitsS b σ
    · cases h
end Go.Proofs.YthbjeeipeadilaaGreat
