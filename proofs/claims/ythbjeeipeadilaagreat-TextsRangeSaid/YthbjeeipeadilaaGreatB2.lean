/- How the bits of a word are counted by steps. -/
import Derived.Test.YthbjeeipeadilaaGreatB1
set_option linter.unusedSimpArgs false
set_option linter.unusedVariables false
set_option maxRecDepth 10000
namespace Go.Pv
open Go

def sw1 (x : Nat) : Nat := (x / 2 ^ 1 &&& 6148914691236517205) + (x / 2 ^ 0 &&& 6148914691236517205)
def sw2 (x : Nat) : Nat := (x / 2 ^ 2 &&& 3689348814741910323) + (x / 2 ^ 0 &&& 3689348814741910323)
def sw3 (x : Nat) : Nat := x / 16 + x &&& 1085102592571150095
def by1 (b : Nat) : Nat := (b / 2 ^ 1 &&& 85) + (b / 2 ^ 0 &&& 85)
def by2 (b : Nat) : Nat := (b / 2 ^ 2 &&& 51) + (b / 2 ^ 0 &&& 51)
def by3 (b : Nat) : Nat := (b / 16 + b) % 16
theorem by1_lt : ∀ b, b < 256 → by1 b < 256 ∧ by1 b ≤ 170 := by decide +kernel
theorem by2_lt : ∀ b, b < 256 → by2 b < 256 ∧ by2 b ≤ 102 := by decide +kernel
theorem by2_4 : ∀ b, b < 256 → by2 (by1 b) % 16 ≤ 4 ∧ by2 (by1 b) / 16 ≤ 4 := by decide +kernel
theorem by3_ones : ∀ b, b < 256 → by3 (by2 (by1 b)) = ones 8 b := by decide +kernel
theorem vl_le {f : Nat → Nat} {m : Nat} : ∀ bs : List Nat, (∀ b ∈ bs, f b ≤ m) → vl (bs.map f) ≤ vl (List.replicate bs.length m)
  | [], _ => Nat.le_refl _
  | b :: bs, h => by
    have := vl_le bs fun x hx => h x (List.mem_cons_of_mem _ hx)
    have hb := h b (List.mem_cons_self ..)
    simp only [List.map_cons, List.length_cons, List.replicate_succ, vl]; omega
theorem m85 : (6148914691236517205 : Nat) = vl (List.replicate 8 85) := by decide +kernel
theorem m51 : (3689348814741910323 : Nat) = vl (List.replicate 8 51) := by decide +kernel
theorem m15 : (1085102592571150095 : Nat) = vl (List.replicate 8 15) := by decide +kernel
theorem eight {bs : List Nat} (h : bs.length = 8) : ∃ b0 b1 b2 b3 b4 b5 b6 b7, bs = [b0, b1, b2, b3, b4, b5, b6, b7] := by
  match bs, h with
  | [b0, b1, b2, b3, b4, b5, b6, b7], _ => exact ⟨b0, b1, b2, b3, b4, b5, b6, b7, rfl⟩
/-- The steps by which a word's bits are counted: none overflows, and what is counted. -/
theorem count_steps (x : Nat) (hx : x < 2 ^ 64) : ∃ d0 d1 d2 d3 d4 d5 d6 d7 : Nat, sw1 x ≤ 12297829382473034410 ∧ sw2 (sw1 x) ≤ 7378697629483820646 ∧ sw3 (sw2 (sw1 x)) = d0 + 256 * (d1 + 256 * (d2 + 256 * (d3 + 256 * (d4 + 256 * (d5 + 256 * (d6 + 256 * d7)))))) ∧
    d0 ≤ 8 ∧ d1 ≤ 8 ∧ d2 ≤ 8 ∧ d3 ≤ 8 ∧ d4 ≤ 8 ∧ d5 ≤ 8 ∧ d6 ≤ 8 ∧ d7 ≤ 8 ∧ ones 64 x = d0 + (d1 + (d2 + (d3 + (d4 + (d5 + (d6 + d7)))))) := by
  obtain ⟨bs, h1, h2, rfl⟩ := vl_of 8 x (by omega)
  have e1 : sw1 (vl bs) = vl (bs.map by1) := by
    have p := and_vl 1 85 (by omega) (by decide) bs h2
    have q := and_vl 0 85 (by omega) (by decide) bs h2
    rw [h1] at p q
    unfold sw1
    rw [m85, p, q, vl_add]; rfl
  have hb1 : ∀ b ∈ bs.map by1, b < 256 := fun b hb => by
    obtain ⟨c, hc, rfl⟩ := List.mem_map.1 hb
    exact (by1_lt c (h2 c hc)).1
  have e2 : sw2 (vl (bs.map by1)) = vl ((bs.map by1).map by2) := by
    have p := and_vl 2 51 (by omega) (by decide) _ hb1
    have q := and_vl 0 51 (by omega) (by decide) _ hb1
    rw [List.length_map, h1] at p q
    unfold sw2
    rw [m51, p, q, vl_add]; rfl
  have e3 : sw3 (vl ((bs.map by1).map by2)) = vl (((bs.map by1).map by2).map by3) := by
    have p := (fold4 ((bs.map by1).map by2) fun b hb => by
      obtain ⟨c, hc, rfl⟩ := List.mem_map.1 hb
      obtain ⟨c', hc', rfl⟩ := List.mem_map.1 hc
      exact by2_4 c' (h2 c' hc')).1
    rw [List.length_map, List.length_map, h1] at p
    unfold sw3
    rw [m15, p]; rfl
  have l1 : vl (bs.map by1) ≤ 12297829382473034410 := by
    have := vl_le (f := by1) (m := 170) bs fun b hb => (by1_lt b (h2 b hb)).2
    rw [h1] at this; exact Nat.le_trans this (by decide +kernel)
  have l2 : vl ((bs.map by1).map by2) ≤ 7378697629483820646 := by
    have := vl_le (f := by2) (m := 102) (bs.map by1) fun b hb => (by2_lt b (hb1 b hb)).2
    rw [List.length_map, h1] at this; exact Nat.le_trans this (by decide +kernel)
  have e4 : ((bs.map by1).map by2).map by3 = bs.map (ones 8) := by
    rw [List.map_map, List.map_map]
    exact List.map_congr_left fun b hb => by3_ones b (h2 b hb)
  have e5 := ones_vl bs h2
  rw [h1] at e5
  rw [e1, e2, e3, e4, e5]
  obtain ⟨b0, b1, b2, b3, b4, b5, b6, b7, rfl⟩ := eight h1
  · refine ⟨ones 8 b0, ones 8 b1, ones 8 b2, ones 8 b3, ones 8 b4, ones 8 b5, ones 8 b6, ones 8 b7, l1, l2, ?_, ones_le 8 _, ones_le 8 _, ones_le 8 _, ones_le 8 _, ones_le 8 _, ones_le 8 _, ones_le 8 _, ones_le 8 _, ?_⟩
    · simp [vl]
    · simp
theorem dv {a Y : Nat} (h : a < 256) : (a + 256 * Y) / 256 = Y := by omega
theorem ad (a b A B : Nat) : (a + 256 * A) + (b + 256 * B) = (a + b) + 256 * (A + B) := by omega
theorem ad0 (a b A : Nat) : (a + 256 * A) + b = (a + b) + 256 * A := by omega
theorem div_2 (z : Nat) : z / 65536 = z / 256 / 256 := by rw [Nat.div_div_eq_div_mul]
theorem div_4 (z : Nat) : z / 4294967296 = z / 256 / 256 / 256 / 256 := by rw [Nat.div_div_eq_div_mul, Nat.div_div_eq_div_mul, Nat.div_div_eq_div_mul]
theorem ce0 (d0 d1 d2 d3 d4 d5 d6 d7 : Nat) (h0 : d0 ≤ 8) (h1 : d1 ≤ 8) (h2 : d2 ≤ 8) (h3 : d3 ≤ 8) (h4 : d4 ≤ 8) (h5 : d5 ≤ 8) (h6 : d6 ≤ 8) (h7 : d7 ≤ 8) :
    d0 + 256 * (d1 + 256 * (d2 + 256 * (d3 + 256 * (d4 + 256 * (d5 + 256 * (d6 + 256 * d7)))))) < 2 ^ 60 := by omega
theorem ce1 (d0 A : Nat) (h0 : d0 < 256) : (d0 + 256 * A) / 256 = A := by omega
theorem ce2 (d0 d1 A : Nat) (h0 : d0 < 256) (h1 : d1 < 256) : (d0 + 256 * (d1 + 256 * A)) / 65536 = A := by rw [div_2, ce1 _ _ h0, ce1 _ _ h1]
theorem ce4 (d0 d1 d2 d3 A : Nat) (h0 : d0 < 256) (h1 : d1 < 256) (h2 : d2 < 256) (h3 : d3 < 256) : (d0 + 256 * (d1 + 256 * (d2 + 256 * (d3 + 256 * A)))) / 4294967296 = A := by rw [div_4, ce1 _ _ h0, ce1 _ _ h1, ce1 _ _ h2, ce1 _ _ h3]
theorem ceB (y z u v : Nat) (hy : y < 2 ^ 60) (hz : z = y + y / 256) (hu : u = z + z / 65536) (hv : v = u + u / 4294967296) : z < 2 ^ 63 ∧ u < 2 ^ 63 ∧ v < 2 ^ 63 := by omega
theorem ceE (d0 d1 d2 d3 d4 d5 d6 d7 A B : Nat) (h0 : d0 ≤ 8) (h1 : d1 ≤ 8) (h2 : d2 ≤ 8) (h3 : d3 ≤ 8) (h4 : d4 ≤ 8) (h5 : d5 ≤ 8) (h6 : d6 ≤ 8) (h7 : d7 ≤ 8) :
    ((d0 + d1 + (d2 + d3) + 256 * A) + (d4 + d5 + (d6 + d7) + 256 * B)) % 128 = d0 + (d1 + (d2 + (d3 + (d4 + (d5 + (d6 + d7)))))) := by omega
theorem le2 {a b : Nat} (ha : a ≤ 8) (hb : b ≤ 8) : a + b < 256 := by omega
theorem le4 {a b c d : Nat} (ha : a ≤ 8) (hb : b ≤ 8) (hc : c ≤ 8) (hd : d ≤ 8) : a + b + (c + d) < 256 := by omega
/-- ... and the last ones: all bytes are added up in the lowest one. -/
theorem count_end (y d0 d1 d2 d3 d4 d5 d6 d7 : Nat) (h : y = d0 + 256 * (d1 + 256 * (d2 + 256 * (d3 + 256 * (d4 + 256 * (d5 + 256 * (d6 + 256 * d7)))))))
    (h0 : d0 ≤ 8) (h1 : d1 ≤ 8) (h2 : d2 ≤ 8) (h3 : d3 ≤ 8) (h4 : d4 ≤ 8) (h5 : d5 ≤ 8) (h6 : d6 ≤ 8) (h7 : d7 ≤ 8) :
    ∃ z u v : Nat, z = y + y / 256 ∧ u = z + z / 65536 ∧ v = u + u / 4294967296 ∧ (z < 2 ^ 63 ∧ u < 2 ^ 63 ∧ v < 2 ^ 63) ∧ v % 128 = d0 + (d1 + (d2 + (d3 + (d4 + (d5 + (d6 + d7)))))) := by
  have hy : y < 2 ^ 60 := h ▸ ce0 d0 d1 d2 d3 d4 d5 d6 d7 h0 h1 h2 h3 h4 h5 h6 h7
  obtain ⟨z, hz⟩ : ∃ z, z = y + y / 256 := ⟨_, rfl⟩
  have hz' : z = (d0 + d1) + 256 * ((d1 + d2) + 256 * ((d2 + d3) + 256 * ((d3 + d4) + 256 * ((d4 + d5) + 256 * ((d5 + d6) + 256 * ((d6 + d7) + 256 * d7)))))) := by
    rw [hz, h, ce1 _ _ (Nat.lt_of_le_of_lt h0 (by decide)), ad, ad, ad, ad, ad, ad, ad0]
  obtain ⟨u, hu⟩ : ∃ u, u = z + z / 65536 := ⟨_, rfl⟩
  have hu' : u = (d0 + d1 + (d2 + d3)) + 256 * ((d1 + d2 + (d3 + d4)) + 256 * ((d2 + d3 + (d4 + d5)) + 256 * ((d3 + d4 + (d5 + d6)) + 256 * ((d4 + d5 + (d6 + d7)) + 256 * ((d5 + d6 + d7) + 256 * ((d6 + d7) + 256 * d7)))))) := by
    rw [hu, hz', ce2 _ _ _ (le2 h0 h1) (le2 h1 h2), ad, ad, ad, ad, ad, ad0]
  obtain ⟨v, hv⟩ : ∃ v, v = u + u / 4294967296 := ⟨_, rfl⟩
  refine ⟨z, u, v, hz, hu, hv, ceB y z u v hy hz hu hv, ?_⟩
  rw [hv, hu', ce4 _ _ _ _ _ (le4 h0 h1 h2 h3) (le4 h1 h2 h3 h4) (le4 h2 h3 h4 h5) (le4 h3 h4 h5 h6)]
  exact ceE _ _ _ _ _ _ _ _ _ _ h0 h1 h2 h3 h4 h5 h6 h7
end Go.Pv
