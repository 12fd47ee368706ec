/- The package bits: sets: New, Len, Get, Rank, Count. -/
import Derived.Test.YthbjeeipeadilaaGreatB3
set_option linter.unusedSimpArgs false
set_option linter.unusedVariables false
set_option maxRecDepth 10000
namespace Go.Proofs.YthbjeeipeadilaaGreat
open Go Go.Pv Go.RowKit

/-- A set's words; a set that is read; a set that is owned. -/
def w64 (l : List Bool) : List (List DV) := (wds l).map fun x : Nat => [.int .u64 (x : Int)]
def setP (l : List Bool) : DV := .pim [.int .i64 (l.length : Nat), .list (w64 l)]
def setO (l : List Bool) : Objs := [some ⟨false, 1, 37, w64 l⟩, some ⟨false, 2, 70, [[.int .i64 (l.length : Nat), .ref 0 0 ((l.length + 63) / 64)]]⟩]
theorem w64_length (l : List Bool) : (w64 l).length = (l.length + 63) / 64 := by simp [w64, wds_length]
theorem w64_get {l : List Bool} {j : Nat} (h : j < (l.length + 63) / 64) : (w64 l)[j]? = some [.int .u64 (wd l j : Nat)] := by
  unfold w64; rw [List.getElem?_map, wds_get h]; rfl
theorem w64_blw (l : List Bool) : ∀ ds ∈ w64 l, ∀ d ∈ ds, Blw 0 d := by
  intro ds hds d hd
  obtain ⟨x, _, rfl⟩ := List.mem_map.1 hds
  simp at hd; subst hd; simp
theorem w64_one (l : List Bool) : ∀ ds ∈ w64 l, ds.length = 1 := by
  intro ds hds
  obtain ⟨x, _, rfl⟩ := List.mem_map.1 hds
  rfl
theorem setP_blw (l : List Bool) : Blw 0 (setP l) := by
  unfold setP
  rw [blw_pim]
  intro d hd
  simp at hd
  rcases hd with rfl | rfl
  · simp
  · rw [blw_list]; exact w64_blw l
theorem setO_snap (l : List Bool) : Snap (obj (setO l)) (.pobj 1 0 0) (setP l) := by
  refine .pobj _ _ _ _ _ _ rfl rfl (Nat.le_refl _) fun k d e h1 h2 => ?_
  match k with
  | 0 => simp at h1 h2; subst h1; subst h2; exact .pure _ (by simp)
  | 1 =>
    simp at h1 h2; subst h1; subst h2
    have := snap_ref (g := obj (setO l)) (id := 0) (off := 0) (len := (w64 l).length) rfl (w64_blw l) (by simp)
    rw [List.drop_zero, List.take_length, w64_length] at this
    exact this
  | k + 2 => simp at h1
theorem wrap_nat (n : Nat) (h : n < 2 ^ 63) : IntKind.i64.wrap (n : Int) = (n : Int) := by rw [IntKind.wrap_i64]; omega
theorem tdiv_nat (i m : Nat) (hi : i < 2 ^ 63) : IntKind.i64.wrap ((i : Int).tdiv (m : Int)) = ((i / m : Nat) : Int) := by
  rw [Int.tdiv_eq_ediv_of_nonneg (by omega), ← Int.natCast_ediv]
  exact wrap_nat _ (Nat.lt_of_le_of_lt (Nat.div_le_self _ _) hi)
theorem tmod_nat (i m : Nat) : (i : Int).tmod (m : Int) = ((i % m : Nat) : Int) := by
  rw [Int.tmod_eq_emod_of_nonneg (by omega), ← Int.natCast_emod]
theorem lenC (l : List Bool) : FnC Tryz.prog 24 [setP l] (· = .int .i64 (l.length : Nat)) := by
  refine FnC.mk Tryz.func24 rfl rfl (Nat.le_of_ble_eq_true rfl) (by intro d hd; simp at hd; subst hd; exact setP_blw l) (by rintro _ rfl; simp) ?_
  refine joinK.direct ?_
  refine ⟨fun h => absurd h (by decide), fun _ => join_go ?_⟩
  exact fin_eq (.int _ _) rfl rfl
theorem wordsC (n : Nat) (h : n ≤ 16777216) : FnC Tryz.prog 64 [.int .i64 (n : Nat)] (· = .int .i64 ((n + 63) / 64 : Nat)) := by
  have e : IntKind.i64.wrap ((IntKind.i64.wrap ((n : Int) + 63)).tdiv 64) = ((n + 63) / 64 : Nat) := by
    have := tdiv_nat (n + 63) 64 (by omega)
    rw [← this, show IntKind.i64.wrap ((n : Int) + 63) = ((n + 63 : Nat) : Int) from by rw [IntKind.wrap_i64]; omega]; rfl
  refine FnC.mk Tryz.func64 rfl rfl (Nat.le_of_ble_eq_true rfl) (by simp) (by rintro _ rfl; simp) ?_
  refine ⟨rfl, by decide, ?_⟩
  exact fin_eq (.int _ _) rfl (int_eq e)
theorem bit_of (w k : Nat) (hw : w < 2 ^ 64) (hk : k < 64) : (Go.bits .and .u64 ((w : Int).fdiv (2 ^ min (k : Int).toNat IntKind.u64.bits)) 1 == 1) = w.testBit k := by
  have e1 : min (k : Int).toNat IntKind.u64.bits = k := by rw [Int.toNat_natCast]; exact Nat.min_eq_left (by show k ≤ 64; omega)
  have e3 := bits_and_u64_nat (w / 2 ^ k) 1 (Nat.lt_of_le_of_lt (Nat.div_le_self _ _) (by omega)) (by decide)
  rw [e1, fd_nat w k (2 ^ k) rfl]
  rw [show Go.bits .and .u64 ((w / 2 ^ k : Nat) : Int) 1 = ((w / 2 ^ k &&& 1 : Nat) : Int) from e3, Nat.and_one_is_mod, Nat.testBit_eq_decide_div_mod_eq, Bool.eq_iff_iff, beq_iff_eq, decide_eq_true_iff]
  omega
theorem getC (l : List Bool) (i : Nat) (hl : l.length ≤ 16777216) : FnC Tryz.prog 28 [setP l, .int .i64 (i : Nat)] (· = .bool ((l[i]?).getD false)) := by
  have h0 : decide ((i : Int) ≥ 0) = true := decide_eq_true (by omega)
  have hp : ∀ d ∈ [setP l, DV.int .i64 (i : Nat)], Blw 0 d := by intro d hd; simp at hd; rcases hd with rfl | rfl; exact setP_blw l; simp
  by_cases hi : i < l.length
  · have h1 : decide ((i : Int) < (l.length : Nat)) = true := decide_eq_true (by omega)
    have hq : IntKind.i64.wrap ((i : Int).tdiv 64) = ((i / 64 : Nat) : Int) := tdiv_nat i 64 (by omega)
    have hr : (i : Int).tmod 64 = ((i % 64 : Nat) : Int) := tmod_nat i 64
    have hg : (w64 l)[(IntKind.i64.wrap ((i : Int).tdiv 64)).toNat]? = some [.int .u64 (wd l (i / 64) : Nat)] := by rw [hq, Int.toNat_natCast]; exact w64_get (by omega)
    have e0 : (0 : Int) ≤ IntKind.i64.wrap ((i : Int).tdiv 64) := by rw [hq]; omega
    have e1 : IntKind.i64.wrap ((i : Int).tdiv 64) < ((w64 l).length : Int) := by rw [hq, w64_length]; omega
    have e3 : (0 : Int) ≤ (i : Int).tmod 64 := by rw [hr]; omega
    have hb := bit_of (wd l (i / 64)) (i % 64) (wd_lt _ _) (by omega)
    rw [← hr, wd_bit, if_pos (by omega), show 64 * (i / 64) + i % 64 = i by omega] at hb
    refine FnC.mk Tryz.func28 rfl rfl (Nat.le_of_ble_eq_true rfl) hp (by rintro _ rfl; simp) ?_
    refine guardK.split ?_
    refine ⟨fun _ => ?_, fun h => absurd (h0.symm.trans h) (by decide)⟩
    refine callK.eq (lenC l) ?_
    refine ⟨fun _ => ?_, fun h => absurd (h1.symm.trans h) (by decide)⟩
    refine ⟨rfl, by decide, ?_⟩
    refine ⟨e0, e1, optK.mk hg ?_⟩
    refine ⟨rfl, by decide, ?_⟩
    refine ⟨e3, ?_⟩
    exact fin_eq (.bool _) rfl (bool_eq hb)
  · have h1 : decide ((i : Int) < (l.length : Nat)) = false := decide_eq_false (by omega)
    have hn : ((l[i]?).getD false) = false := by rw [List.getElem?_eq_none (by omega)]; rfl
    refine FnC.mk Tryz.func28 rfl rfl (Nat.le_of_ble_eq_true rfl) hp (by rintro _ rfl; simp) ?_
    refine guardK.split ?_
    refine ⟨fun _ => ?_, fun h => absurd (h0.symm.trans h) (by decide)⟩
    refine callK.eq (lenC l) ?_
    refine ⟨fun h => absurd (h1.symm.trans h) (by decide), fun _ => ?_⟩
    exact fin_eq (.bool _) rfl (bool_eq hn.symm)
theorem two_st {a b c d : List (List DV)} {t u : TypeId} {m k : Nat} (h : a = b) (h' : c = d) : [some (⟨false, m, t, a⟩ : PO), some ⟨false, k, u, c⟩] = [some ⟨false, m, t, b⟩, some ⟨false, k, u, d⟩] := by rw [h, h']
theorem w64_false (n : Nat) : w64 (List.replicate n false) = List.replicate ((n + 63) / 64) [.int .u64 0] := by
  unfold w64; rw [wds_false, List.map_replicate]; rfl
theorem newS (n : Nat) (h : n ≤ 16777216) : FnS Tryz.prog 27 [.int .i64 (n : Nat)] [] (fun d s => d = .pobj 1 0 0 ∧ s = setO (List.replicate n false)) := by
  have h0 : decide ((n : Int) < 0) = false := decide_eq_false (by omega)
  have h1 : decide ((n : Int) > 16777216) = false := decide_eq_false (by omega)
  have hc : (bif decide ((n : Int) < 0) then true else decide ((n : Int) > 16777216)) = false := by rw [h0, h1]; rfl
  have h2 : (0 : Int) ≤ (((n + 63) / 64 : Nat) : Int) := by omega
  have h3 : (8 : Int) * (((n + 63) / 64 : Nat) : Int) ≤ 281474976710656 := by omega
  have h4 : (((n + 63) / 64 : Nat) : Int) ≤ 9223372036854775807 := by omega
  have e1 : List.replicate (((n + 63) / 64 : Nat) : Int).toNat [DV.int .u64 0] = List.replicate ((n + 63) / 64) [.int .u64 0] := by rw [Int.toNat_natCast]
  have h5 : (((n + 63) / 64 : Nat) : Int).toNat = (n + 63) / 64 := Int.toNat_natCast _
  have e3 : [[DV.int .i64 (n : Nat), .ref 0 0 (((n + 63) / 64 : Nat) : Int).toNat]] = [[DV.int .i64 ((List.replicate n false).length : Nat), .ref 0 0 (((List.replicate n false).length + 63) / 64)]] := by rw [List.length_replicate, h5]
  refine FnS.mk Tryz.func27 rfl rfl (Nat.le_of_ble_eq_true rfl) ?_
  refine joinK.direct ?_
  refine guardK.spec ?_
  refine ⟨fun h => absurd (hc.symm.trans h) (by decide), fun _ => join_go ?_⟩
  refine callK.eq (wordsC n h) ?_
  refine ⟨h2, Int.le_refl _, h3, h4, by decide, rfl, rfl, ?_⟩
  refine finS_eq rfl ?_
  exact two_st (e1.trans (w64_false n).symm) e3
theorem countRank (l : List Bool) (j : Nat) : (l.take (64 * (j + 1))).count true = (l.take (64 * j)).count true + ones 64 (wd l j) := by
  rw [ones_wd, Nat.mul_add, Nat.mul_one, List.take_add, List.count_append]
theorem count_le_len (l : List Bool) (n : Nat) : (l.take n).count true ≤ l.length := Nat.le_trans List.count_le_length (by rw [List.length_take]; omega)
theorem rankC (l : List Bool) (i : Nat) (hi : i ≤ l.length) (hl : l.length ≤ 16777216) : FnC Tryz.prog 62 [setP l, .int .i64 (i : Nat)] (· = .int .i64 ((l.take i).count true : Nat)) := by
  have hp : ∀ d ∈ [setP l, DV.int .i64 (i : Nat)], Blw 0 d := by intro d hd; simp at hd; rcases hd with rfl | rfl; exact setP_blw l; simp
  have hri : (if ((l.length : Nat) : Int) < (if (0 : Int) > (i : Int) then 0 else (i : Int)) then ((l.length : Nat) : Int) else (if (0 : Int) > (i : Int) then 0 else (i : Int))) = (i : Int) := by
    rw [if_neg (show ¬ (0 : Int) > (i : Int) by omega), if_neg (by omega)]
  have hq : IntKind.i64.wrap ((i : Int).tdiv 64) = ((i / 64 : Nat) : Int) := tdiv_nat i 64 (by omega)
  have hr : (i : Int).tmod 64 = ((i % 64 : Nat) : Int) := tmod_nat i 64
  have hri2 : IntKind.i64.wrap ((if ((l.length : Nat) : Int) < (if (0 : Int) > (i : Int) then 0 else (i : Int)) then ((l.length : Nat) : Int) else (if (0 : Int) > (i : Int) then 0 else (i : Int))).tdiv 64) = ((i / 64 : Nat) : Int) := by rw [hri, hq]
  refine FnC.mk Tryz.func62 rfl rfl (Nat.le_of_ble_eq_true rfl) hp (by rintro _ rfl; simp) ?_
  refine callK.eq (lenC l) ?_
  refine joinK.use [0, 1, 5] (fun _ : Unit => [setP l, .int .i64 (i : Nat), .int .i64 ((l.take (64 * (i / 64))).count true : Nat)]) (fun _ => []) (fun _ => True) ?_ ?_
  · refine ⟨rfl, by decide, ?_⟩
    refine loopK.use [0, 1, 5, 13, 14] (fun j : Nat => [setP l, .int .i64 (i : Nat), .int .i64 ((l.take (64 * j)).count true : Nat), .int .i64 (i / 64 : Nat), .int .i64 j]) (fun _ => []) (fun j => j ≤ i / 64) (fun j => i / 64 - j) 0 (Nat.zero_le _)
      ⟨rfl, int_eq hri, rfl, int_eq hri2, rfl, trivial⟩ (.inl rfl) ?_
    intro j hj
    by_cases hjl : j < i / 64
    · have hd : decide ((j : Int) < ((i / 64 : Nat) : Int)) = true := decide_eq_true (by omega)
      have hg : (w64 l)[(j : Int).toNat]? = some [.int .u64 (wd l j : Nat)] := by rw [Int.toNat_natCast]; exact w64_get (by omega)
      have e0 : (0 : Int) ≤ (j : Int) := by omega
      have e1 : (j : Int) < ((w64 l).length : Int) := by rw [w64_length]; omega
      have co := onesC (wd l j) (wd_lt l j)
      have hc := countRank l j
      have hcl := count_le_len l (64 * (j + 1))
      have hw : IntKind.i64.wrap (((l.take (64 * j)).count true : Nat) + (ones 64 (wd l j) : Nat) : Int) = ((l.take (64 * (j + 1))).count true : Nat) := by rw [IntKind.wrap_i64]; omega
      have hw1 : IntKind.i64.wrap ((j : Int) + 1) = ((j + 1 : Nat) : Int) := by rw [IntKind.wrap_i64]; omega
      have f1 : j + 1 ≤ i / 64 := by omega
      have f2 : i / 64 - (j + 1) < i / 64 - j := by omega
      refine joinK.direct ?_
      refine ⟨fun _ => join_go ?_, fun h => absurd (hd.symm.trans h) (by decide)⟩
      refine ⟨e0, e1, optK.mk hg ?_⟩
      refine callK.eq co ?_
      exact loop_next (j + 1) f1 f2 ⟨rfl, rfl, int_eq hw, rfl, int_eq hw1, trivial⟩ (.inl rfl)
    · have hd : decide ((j : Int) < ((i / 64 : Nat) : Int)) = false := decide_eq_false (by omega)
      have e : j = i / 64 := by omega
      subst e
      refine joinK.direct ?_
      refine ⟨fun h => absurd (hd.symm.trans h) (by decide), fun _ => ?_⟩
      exact join_at () trivial ⟨rfl, rfl, rfl, trivial⟩ (.inl rfl)
  rintro ⟨⟩ -
  by_cases hz : i % 64 = 0
  · have hd : decide ((i : Int).tmod 64 > 0) = false := by rw [hr]; exact decide_eq_false (by omega)
    have he : 64 * (i / 64) = i := by omega
    refine joinK.direct ?_
    refine ⟨rfl, by decide, ?_⟩
    refine ⟨fun h => absurd (hd.symm.trans h) (by decide), fun _ => join_go ?_⟩
    exact fin_eq (.int _ _) rfl (int_eq (by rw [he]))
  · have hd : decide ((i : Int).tmod 64 > 0) = true := by rw [hr]; exact decide_eq_true (by omega)
    have hg : (w64 l)[(IntKind.i64.wrap ((i : Int).tdiv 64)).toNat]? = some [.int .u64 (wd l (i / 64) : Nat)] := by rw [hq, Int.toNat_natCast]; exact w64_get (by omega)
    have e0 : (0 : Int) ≤ IntKind.i64.wrap ((i : Int).tdiv 64) := by rw [hq]; omega
    have e1 : IntKind.i64.wrap ((i : Int).tdiv 64) < ((w64 l).length : Int) := by rw [hq, w64_length]; omega
    have hs : IntKind.i64.wrap (64 - (i : Int).tmod 64) = ((64 - i % 64 : Nat) : Int) := by rw [hr, IntKind.wrap_i64]; omega
    have e2 : (0 : Int) ≤ IntKind.i64.wrap (64 - (i : Int).tmod 64) := by rw [hs]; omega
    have hup := ones_up l (i / 64) (i % 64) (by omega) (by omega) (by omega)
    have hsh : IntKind.u64.wrap (((wd l (i / 64) : Nat) : Int) * 2 ^ min (IntKind.i64.wrap (64 - (i : Int).tmod 64)).toNat IntKind.u64.bits) = ((wd l (i / 64) * 2 ^ (64 - i % 64) % 2 ^ 64 : Nat) : Int) := by
      rw [hs, Int.toNat_natCast, Nat.min_eq_left (show 64 - i % 64 ≤ IntKind.u64.bits by show _ ≤ 64; omega), IntKind.wrap_u64]
      rw [show ((wd l (i / 64) : Nat) : Int) * 2 ^ (64 - i % 64) = ((wd l (i / 64) * 2 ^ (64 - i % 64) : Nat) : Int) by rw [Int.natCast_mul, Int.natCast_pow]; rfl]
      omega
    have co := onesC (wd l (i / 64) * 2 ^ (64 - i % 64) % 2 ^ 64) (Nat.mod_lt _ (by decide))
    rw [← hsh] at co
    have hc : (l.take i).count true = (l.take (64 * (i / 64))).count true + ((l.drop (64 * (i / 64))).take (i % 64)).count true := by
      conv => lhs; rw [show i = 64 * (i / 64) + i % 64 by omega, List.take_add, List.count_append]
    have hcl := count_le_len l i
    have hw : IntKind.i64.wrap (((l.take (64 * (i / 64))).count true : Nat) + (ones 64 (wd l (i / 64) * 2 ^ (64 - i % 64) % 2 ^ 64) : Nat) : Int) = ((l.take i).count true : Nat) := by rw [hup, IntKind.wrap_i64]; omega
    refine joinK.direct ?_
    refine ⟨rfl, by decide, ?_⟩
    refine ⟨fun _ => ?_, fun h => absurd (hd.symm.trans h) (by decide)⟩
    refine ⟨rfl, by decide, ?_⟩
    refine ⟨e0, e1, optK.mk hg ?_⟩
    refine ⟨rfl, by decide, ?_⟩
    refine ⟨e2, ?_⟩
    refine callK.eq co ?_
    refine join_go ?_
    exact fin_eq (.int _ _) rfl (int_eq hw)
theorem countC (l : List Bool) (hl : l.length ≤ 16777216) : FnC Tryz.prog 25 [setP l] (· = .int .i64 (l.count true : Nat)) := by
  have c := rankC l l.length (Nat.le_refl _) hl
  rw [List.take_length] at c
  refine FnC.mk Tryz.func25 rfl rfl (Nat.le_of_ble_eq_true rfl) (by intro d hd; simp at hd; subst hd; exact setP_blw l) (by rintro _ rfl; simp) ?_
  refine callK.eq (lenC l) ?_
  refine callK.eq c ?_
  exact fin_eq (.int _ _) rfl rfl
end Go.Proofs.YthbjeeipeadilaaGreat
