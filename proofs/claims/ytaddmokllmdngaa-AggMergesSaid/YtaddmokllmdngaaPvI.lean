/- float64: the sign of a difference. -/
import Derived.Test.YtaddmokllmdngaaPvH
set_option linter.unusedSimpArgs false
set_option linter.unusedVariables false
set_option exponentiation.threshold 2000
namespace Go.Pv
open Go

theorem cut_le (s : Bool) (n d : Nat) : Ieee.Toward.even.cut s n d ≤ n / 2 ^ d + 1 := by
  unfold Ieee.Toward.cut
  simp only [Nat.shiftLeft_eq, Nat.one_mul]
  have hb : ∀ b : Bool, b.toNat ≤ 1 := fun b => by cases b <;> decide
  by_cases h : d ≤ n.log2 + 2
  · rw [Nat.min_eq_left h]; exact Nat.add_le_add_left (hb _) _
  · rw [Nat.min_eq_right (by omega)]
    have h1 : n < 2 ^ (n.log2 + 1) := Nat.lt_log2_self
    have h2 := pow_mono (show n.log2 + 1 ≤ n.log2 + 2 by omega)
    rw [Nat.div_eq_of_lt (show n < 2 ^ (n.log2 + 2) by omega)]
    exact Nat.le_trans (Nat.add_le_add_left (hb _) _) (Nat.add_le_add_right (Nat.zero_le _) 1)
theorem worth_word {r : Nat} (s : Bool) (h : r < 9218868437227405312) : worth (Ieee.double.word s r) = rungI s (magV r) ∧ Fin64 (Ieee.double.word s r) := by
  have hw : Ieee.double.word s r = (bif s then 9223372036854775808 else 0) + r := by cases s <;> simp [Ieee.Format.word, f_sw]
  have hx : Ieee.double.word s r % 9223372036854775808 = r := by rw [hw]; cases s <;> simp only [cond_true, cond_false] <;> omega
  have hl : Ieee.double.word s r < 18446744073709551616 := by rw [hw]; cases s <;> simp only [cond_true, cond_false] <;> omega
  have hs : signF (Ieee.double.word s r) = s := by
    unfold signF; rw [hw]
    cases s
    · exact decide_eq_false (by simp only [cond_false]; omega)
    · exact decide_eq_true (by simp only [cond_true]; omega)
  exact ⟨by unfold worth; rw [hx, hs], hl, by rw [hx]; exact h⟩
theorem small_word (s : Bool) (E x : Nat) (hE : E ≤ 1100) (hx : x < 9007199254740994) (h0 : 0 < x ∨ 0 < E) : ∃ r, 0 < r ∧ r < 9218868437227405312 ∧ Ieee.double.word s (min (E * 4503599627370496 + x) 9218868437227405312) = Ieee.double.word s r :=
  ⟨E * 4503599627370496 + x, by omega, by omega, congrArg (Ieee.double.word s) (Nat.min_eq_left (by omega))⟩
/-- What is not 0 does not become 0, and keeps its sign. -/
theorem nearest_sign (s : Bool) {mag c : Nat} (h0 : mag ≠ 0) (hb : mag * 2 ^ c < 2 ^ 1140) : ∃ r, 0 < r ∧ r < 9218868437227405312 ∧ Ieee.double.nearest s mag ((c : Int) - 1074) = Ieee.double.word s r := by
  have hL1 : 2 ^ mag.log2 ≤ mag := Nat.log2_self_le h0
  have hL2 : mag < 2 ^ (mag.log2 + 1) := Nat.lt_log2_self
  obtain ⟨L, hL⟩ : ∃ L, L = mag.log2 := ⟨_, rfl⟩
  rw [← hL] at hL1 hL2
  have hLc : L + c < 1140 := by
    apply Nat.lt_of_not_le; intro hc
    have h1 := pow_mono hc
    have h2 := Nat.mul_le_mul_right (2 ^ c) hL1
    rw [← Nat.pow_add] at h2
    exact absurd hb (Nat.not_lt.2 (Nat.le_trans h1 h2))
  clear hb
  have hfb : ((Ieee.double.fractionBits : Nat) : Int) = 52 := rfl
  unfold Ieee.Format.nearest
  rw [if_neg h0, ← hL, f_lp, f_bin, f_inf, hfb]
  by_cases hc : c + L ≤ 52
  · have e0 : max ((c : Int) - 1074 + (L : Int) - 52) (-1074) = -1074 := by omega
    simp only [e0]
    have e1 : ((c : Int) - 1074 - -1074).toNat = c := by omega
    have e2 : ((-1074 : Int) - ((c : Int) - 1074)).toNat = 0 := by omega
    have e3 : ((-1074 : Int) - -1074).toNat = 0 := by omega
    have hc2 := cut_exact s (mag * 2 ^ c) 0 _ rfl (by omega)
    rw [Nat.pow_zero, Nat.mul_one] at hc2
    rw [e1, e2, e3, Nat.shiftLeft_eq, hc2]
    have p1 : 0 < mag * 2 ^ c := Nat.mul_pos (by omega) (Nat.pow_pos (by decide))
    have p2 : mag * 2 ^ c < 9007199254740992 := by
      have := Nat.mul_lt_mul_of_pos_right hL2 (Nat.pow_pos (n := c) (show 0 < 2 by decide))
      rw [← Nat.pow_add] at this
      have h2 := pow_mono (show L + 1 + c ≤ 53 by omega)
      exact Nat.lt_of_lt_of_le this h2
    exact small_word s 0 (mag * 2 ^ c) (by decide) (Nat.lt_trans p2 (by decide)) (.inl p1)
  · have e0 : max ((c : Int) - 1074 + (L : Int) - 52) (-1074) = ((c + L - 52 : Nat) : Int) - 1074 := by omega
    simp only [e0]
    have e1 : ((c : Int) - 1074 - (((c + L - 52 : Nat) : Int) - 1074)).toNat = 52 - L := by omega
    have e2 : (((c + L - 52 : Nat) : Int) - 1074 - ((c : Int) - 1074)).toNat = L - 52 := by omega
    have e3 : (((c + L - 52 : Nat) : Int) - 1074 - -1074).toNat = c + L - 52 := by omega
    have hk := cut_le s (mag * 2 ^ (52 - L)) (L - 52)
    have hq : mag * 2 ^ (52 - L) / 2 ^ (L - 52) < 9007199254740992 := by
      rw [Nat.div_lt_iff_lt_mul (Nat.pow_pos (by decide))]
      have h1 := Nat.mul_lt_mul_of_pos_right hL2 (Nat.pow_pos (n := 52 - L) (show 0 < 2 by decide))
      refine Nat.lt_of_lt_of_le h1 ?_
      rw [show (9007199254740992 : Nat) = 2 ^ 53 from rfl, ← Nat.pow_add, ← Nat.pow_add]
      exact pow_mono (by omega)
    have hk2 := Nat.le_trans hk (Nat.succ_le_of_lt hq)
    clear hk hq
    rw [e1, e2, e3, Nat.shiftLeft_eq]
    exact small_word s (c + L - 52) _ (by omega) (Nat.lt_of_le_of_lt hk2 (by decide)) (.inr (by omega))
theorem sub_sign {f h : Nat} (hf : Fin64 f) (hh : Fin64 h) (hb : (worth f - worth h).natAbs < 2 ^ 1140) :
    ∃ d, floatBits .sub .f64 f h = some d ∧ Fin64 d ∧ (0 < worth d ↔ 0 < worth f - worth h) ∧ (worth d < 0 ↔ worth f - worth h < 0) := by
  obtain ⟨m, e, r1, v1⟩ := read_fin hf
  obtain ⟨n, d, r2, v2⟩ := read_fin hh
  have h3 : floatBits .sub .f64 f h = ((Ieee.double.read f).sum (Ieee.double.read h).opposite).map Ieee.double.write := rfl
  rw [h3, r1, r2]
  unfold Ieee.Datum.opposite Ieee.Datum.sum
  simp only [signed_eq, Option.map_some]
  obtain ⟨c, hc⟩ : ∃ c, c = min e d := ⟨_, rfl⟩
  have e0 : min ((e : Int) - 1074) ((d : Int) - 1074) = (c : Int) - 1074 := by omega
  have e1 : ((e : Int) - 1074 - ((c : Int) - 1074)).toNat = e - c := by omega
  have e2 : ((d : Int) - 1074 - ((c : Int) - 1074)).toNat = d - c := by omega
  rw [e0, e1, e2]
  have p1 : m * 2 ^ e = m * 2 ^ (e - c) * 2 ^ c := by rw [Nat.mul_assoc, ← Nat.pow_add]; congr 2; omega
  have p2 : n * 2 ^ d = n * 2 ^ (d - c) * 2 ^ c := by rw [Nat.mul_assoc, ← Nat.pow_add]; congr 2; omega
  have hneg : rungI (!signF h) (n * 2 ^ (d - c)) = -rungI (signF h) (n * 2 ^ (d - c)) := by unfold rungI; cases signF h <;> simp
  have hR : worth f - worth h = (rungI (signF f) (m * 2 ^ (e - c)) + rungI (!signF h) (n * 2 ^ (d - c))) * ((2 ^ c : Nat) : Int) := by
    unfold worth
    rw [← v1, ← v2, p1, p2, rung_mul (signF f) (m * 2 ^ (e - c)) (2 ^ c), rung_mul (signF h) (n * 2 ^ (d - c)) (2 ^ c), hneg, Int.add_mul, Int.neg_mul]; rfl
  generalize rungI (signF f) (m * 2 ^ (e - c)) + rungI (!signF h) (n * 2 ^ (d - c)) = T at *
  have pc : (0 : Int) < ((2 ^ c : Nat) : Int) := by have := Nat.pow_pos (n := c) (show 0 < 2 by decide); omega
  have s1 : 0 < T * ((2 ^ c : Nat) : Int) ↔ 0 < T := ⟨fun h => Int.pos_of_mul_pos_left h pc |> fun h => h, fun h => Int.mul_pos h pc⟩
  have s2 : T * ((2 ^ c : Nat) : Int) < 0 ↔ T < 0 := by
    constructor
    · intro h
      apply Int.lt_of_not_ge; intro h2
      have := Int.mul_nonneg h2 (Int.le_of_lt pc); omega
    · intro h; exact Int.mul_neg_of_neg_of_pos h pc
  rw [hR, s1, s2]
  refine ⟨_, rfl, ?_⟩
  by_cases hT : T = 0
  · rw [if_pos hT, hT]
    have hz : Ieee.double.write (.number (signF f && !signF h) (0 : Int).natAbs ((c : Int) - 1074)) = Ieee.double.word (signF f && !signF h) 0 := by
      show Ieee.double.nearest _ 0 _ = _
      unfold Ieee.Format.nearest; rw [if_pos rfl]
    rw [hz]
    obtain ⟨w1, w2⟩ := worth_word (signF f && !signF h) (r := 0) (by decide)
    have w3 : worth (Ieee.double.word (signF f && !signF h) 0) = 0 := by rw [w1]; cases (signF f && !signF h) <;> rfl
    exact ⟨w2, by rw [w3], by rw [w3]⟩
  · rw [if_neg hT]
    have hm0 : T.natAbs ≠ 0 := by omega
    have hb2 : T.natAbs * 2 ^ c < 2 ^ 1140 := by
      rw [hR, Int.natAbs_mul, Int.natAbs_natCast] at hb; exact hb
    obtain ⟨r, q1, q2, q3⟩ := nearest_sign (decide (T < 0)) hm0 hb2
    rw [show Ieee.double.write (.number (decide (T < 0)) T.natAbs ((c : Int) - 1074)) = _ from q3]
    obtain ⟨w1, w2⟩ := worth_word (decide (T < 0)) q2
    have mp : 0 < magV r := Nat.pos_of_ne_zero fun e => absurd (magV_pos.1 e) (by omega)
    refine ⟨w2, ?_, ?_⟩ <;> rw [w1] <;> unfold rungI <;> generalize magV r = V at *
    · by_cases h : T < 0
      · rw [decide_eq_true h, cond_true]; omega
      · rw [decide_eq_false h, cond_false]; omega
    · by_cases h : T < 0
      · rw [decide_eq_true h, cond_true]; omega
      · rw [decide_eq_false h, cond_false]; omega
end Go.Pv
