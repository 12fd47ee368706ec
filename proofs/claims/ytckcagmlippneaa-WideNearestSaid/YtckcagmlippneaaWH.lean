/- Which number a text tells; wide's Read. -/
import Derived.Test.YtckcagmlippneaaWG
set_option linter.unusedSimpArgs false
set_option linter.unusedVariables false
namespace Go.Proofs.Ytckcagmlippneaa
open Go Go.Pv Go.RowKit
set_option maxRecDepth 10000
set_option exponentiation.threshold 1000

def isDig (b : UInt8) : Bool := decide (48 ≤ b.toNat) && decide (b.toNat ≤ 57)
def valL (l : List UInt8) : Nat := l.foldl (fun a b => a * 10 + (b.toNat - 48)) 0
theorem valL_snoc (l : List UInt8) (b : UInt8) : valL (l ++ [b]) = valL l * 10 + (b.toNat - 48) := by simp [valL]
theorem dec_facts (n : Nat) : valL (dec n) = n ∧ (∀ b ∈ dec n, isDig b = true) ∧ (∀ k, n < 10 ^ (k + 1) → (dec n).length ≤ k + 1) ∧ dec n ≠ [] := by
  induction n using Nat.strongRecOn with
  | _ n ih =>
    have hd : isDig (digB n) = true := by unfold isDig; rw [digB_val]; simp; omega
    rcases Nat.lt_or_ge n 10 with h | h
    · rw [dec_lt h]
      refine ⟨?_, by simpa using hd, fun k _ => by simp, by simp⟩
      simp only [valL, List.foldl_cons, List.foldl_nil, digB_val]; omega
    · rw [dec_ge h]
      obtain ⟨h1, h2, h3, h4⟩ := ih (n / 10) (by omega)
      refine ⟨?_, ?_, ?_, by simp⟩
      · rw [valL_snoc, h1, digB_val]; omega
      · intro b hb
        rcases List.mem_append.1 hb with hb | hb
        · exact h2 b hb
        · simp at hb; subst hb; exact hd
      · intro k hk
        cases k with
        | zero => omega
        | succ k =>
          have := h3 k (by rw [Nat.pow_succ] at hk; omega)
          simp; omega
theorem dec_len {n : Nat} (h : n < 2 ^ 128) : (dec n).length ≤ 40 := (dec_facts n).2.2.1 39 (Nat.lt_of_lt_of_le h (by decide))

/-- A text's sign and digits. -/
def isNeg (l : List UInt8) : Bool := match l with | b :: _ => b == 45 | [] => false
def digsOf (l : List UInt8) : List UInt8 := bif isNeg l then l.drop 1 else l
def valS (l : List UInt8) : Int := bif isNeg l then 0 - (valL (digsOf l) : Int) else (valL (digsOf l) : Int)
theorem text_parts (x : Int) : isNeg (textL x) = decide (x < 0) ∧ digsOf (textL x) = dec x.natAbs := by
  obtain ⟨_, h2, _, h4⟩ := dec_facts x.natAbs
  by_cases hx : x < 0
  · have : textL x = 45 :: dec x.natAbs := by unfold textL; rw [if_pos hx]; rfl
    rw [this]
    refine ⟨by simp [isNeg, hx], by simp [digsOf, isNeg]⟩
  · have e : textL x = dec x.natAbs := by unfold textL; rw [if_neg hx]; rfl
    have hn : isNeg (dec x.natAbs) = false := by
      cases hd : dec x.natAbs with
      | nil => rfl
      | cons b l =>
        have := h2 b (by rw [hd]; simp)
        simp only [isNeg]
        unfold isDig at this
        rw [Bool.eq_false_iff]
        intro e
        have : b = 45 := by simpa using e
        subst this
        revert this; decide
    rw [e]
    exact ⟨by rw [hn]; simp [hx], by unfold digsOf; rw [hn]; rfl⟩
theorem text_val (x : Int) : valS (textL x) = x := by
  obtain ⟨h1, h2⟩ := text_parts x
  unfold valS
  rw [h1, h2, (dec_facts _).1]
  by_cases hx : x < 0
  · rw [decide_eq_true hx]; simp only [cond_true]; omega
  · rw [decide_eq_false hx]; simp only [cond_false]; omega
theorem text_inj {x y : Int} (h : textL x = textL y) : x = y := by rw [← text_val x, ← text_val y, h]

/-- A number within 128 bits that is the same modulo 2^128. -/
def mod128 (x : Int) : Int := (x + 170141183460469231731687303715884105728) % 340282366920938463463374607431768211456 - 170141183460469231731687303715884105728
theorem mod128_in (x : Int) : in128 (mod128 x) := by unfold mod128 in128; omega
theorem mod128_of {x : Int} (h : in128 x) : mod128 x = x := by obtain ⟨h1, h2⟩ := h; unfold mod128; omega
theorem wideC_mod (x : Int) : wideC (mod128 x) = wideC x := by
  unfold wideC hiW loW mod128
  have e1 : IntKind.i64.wrap (((x + 170141183460469231731687303715884105728) % 340282366920938463463374607431768211456 - 170141183460469231731687303715884105728) / 18446744073709551616) = IntKind.i64.wrap (x / 18446744073709551616) := by
    rw [IntKind.wrap_i64, IntKind.wrap_i64]; omega
  have e2 : ((x + 170141183460469231731687303715884105728) % 340282366920938463463374607431768211456 - 170141183460469231731687303715884105728) % 18446744073709551616 = x % 18446744073709551616 := by omega
  rw [e1, e2]
theorem wideD_mod (x : Int) : wideD (mod128 x) = wideD x := congrArg DV.agg (wideC_mod x)

open Classical in
/-- The number whose text it is, if there is one. -/
noncomputable def readX (l : List UInt8) : Option Int := if in128 (valS l) ∧ textL (valS l) = l then some (valS l) else none
theorem readX_text {x : Int} (h : in128 x) : readX (textL x) = some x := by
  unfold readX; rw [text_val, if_pos ⟨h, rfl⟩]
theorem readX_some {l : List UInt8} {x : Int} (h : readX l = some x) : in128 x ∧ textL x = l := by
  unfold readX at h
  split at h
  · rename_i hc
    injection h with h; subst h; exact hc
  · cases h
theorem readX_none {l : List UInt8} (h : ∀ x, in128 x → textL x ≠ l) : readX l = none := by
  unfold readX
  rw [if_neg]
  rintro ⟨h1, h2⟩
  exact h _ h1 h2
/-- Where the text is not told again, there is no number. -/
theorem readX_ne {l : List UInt8} (h : textL (mod128 (valS l)) ≠ l) : readX l = none := by
  refine readX_none fun x hx e => h ?_
  rw [← e, text_val, mod128_of hx]
theorem readX_eq {l : List UInt8} (h : textL (mod128 (valS l)) = l) : readX l = some (mod128 (valS l)) := by
  have h2 := readX_text (mod128_in (valS l))
  rwa [h] at h2
theorem readX_bad {l : List UInt8} {i : Nat} {b : UInt8} (hi : (digsOf l)[i]? = some b) (h : isDig b = false ∨ 40 < i) : readX l = none := by
  refine readX_none fun x hx e => ?_
  subst e
  rw [(text_parts x).2] at hi
  rcases h with h | h
  · rw [(dec_facts _).2.1 b (List.mem_of_getElem? hi)] at h; cases h
  · have h1 := dec_len (n := x.natAbs) (by have := hx.1; have := hx.2; omega)
    have h2 := (List.getElem?_eq_some_iff.1 hi).1
    omega
noncomputable def readD (l : List UInt8) : DV :=
  match readX l with
  | some x => .tup [wideD x, .bool true]
  | none => .tup [wideD 0, .bool false]
theorem blw_readD (l : List UInt8) : Blw 0 (readD l) := by
  unfold readD
  split
  · rw [blw_tup]; intro d hd; simp at hd; rcases hd with rfl | rfl
    · exact blw_wideD _
    · simp
  · rw [blw_tup]; intro d hd; simp at hd; rcases hd with rfl | rfl
    · exact blw_wideD _
    · simp
end Go.Proofs.Ytckcagmlippneaa
