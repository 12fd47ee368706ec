/- Wide's reference: Text: the plain law, the walk. -/
import Derived.Test.YtckcagmlippneaaWT
namespace Go.Proofs.Ytckcagmlippneaa
open Go Go.Pv Go.RowKit
set_option linter.unusedSimpArgs false
set_option linter.unusedVariables false
set_option maxRecDepth 10000
set_option exponentiation.threshold 1000

/-- The digits below s of m, those from s on of its tenth. -/
def digM (m s : Nat) : List (List DV) := (List.range 24).map fun p => cell32 (bif Nat.blt p s then digN m p else digN (m / 10) p)
theorem digM_len (m s : Nat) : (digM m s).length = 24 := by simp [digM]
theorem digM_get (m s p : Nat) (h : p < 24) : (digM m s)[p]? = some (cell32 (bif Nat.blt p s then digN m p else digN (m / 10) p)) := by simp [digM, h]
theorem digM_24 (m : Nat) : digM m 24 = digL m := by
  apply List.ext_getElem?
  intro p
  by_cases h : p < 24
  · rw [digM_get m 24 p h, digL_get m p h, show Nat.blt p 24 = true from Nat.ble_eq_true_of_le h]; rfl
  · rw [List.getElem?_eq_none (by rw [digM_len]; omega), List.getElem?_eq_none (by rw [digL_len]; omega)]
theorem digM_0 (m : Nat) : digM m 0 = digL (m / 10) := by
  apply List.ext_getElem?
  intro p
  by_cases h : p < 24
  · rw [digM_get m 0 p h, digL_get _ p h]; rfl
  · rw [List.getElem?_eq_none (by rw [digM_len]; omega), List.getElem?_eq_none (by rw [digL_len]; omega)]
theorem digM_at (m i : Nat) (h : i < 24) : (digM m (i + 1))[i]? = some (cell32 (digN m i)) := by
  rw [digM_get m _ i h, show Nat.blt i (i + 1) = true from Nat.ble_eq_true_of_le (Nat.le_refl _)]; rfl
theorem digM_set (m i : Nat) (h : i < 24) : (digM m (i + 1)).set i (cell32 (digN (m / 10) i)) = digM m i := by
  apply List.ext_getElem?
  intro p
  by_cases hp : p < 24
  · rw [List.getElem?_set, digM_get m i p hp]
    by_cases e : i = p
    · subst e
      rw [if_pos rfl, if_pos (by rw [digM_len]; exact h)]
      have : Nat.blt i i = false := by rw [Bool.eq_false_iff]; intro e; have := Nat.le_of_ble_eq_true e; omega
      rw [this]; rfl
    · rw [if_neg e, digM_get m (i + 1) p hp]
      have : Nat.blt p (i + 1) = Nat.blt p i := by rw [Bool.eq_iff_iff]; simp only [Nat.blt, Nat.ble_eq]; omega
      rw [this]
  · rw [List.getElem?_eq_none (by simp [digM_len]; omega), List.getElem?_eq_none (by rw [digM_len]; omega)]
theorem digM_blw (m s : Nat) {k : Nat} : ∀ ds ∈ digM m s, ∀ d ∈ ds, Blw k d := by
  intro ds h d hd
  simp only [digM, List.mem_map] at h
  obtain ⟨i, _, rfl⟩ := h
  simp [cell32] at hd; subst hd; simp
theorem tenth (m i : Nat) : (m / 65536 ^ (i + 1) % 10 * 65536 + digN m i) / 10 = digN (m / 10) i ∧ (m / 65536 ^ (i + 1) % 10 * 65536 + digN m i) % 10 = m / 65536 ^ i % 10 := by
  have e1 : m / 65536 ^ (i + 1) = m / 65536 ^ i / 65536 := by rw [Nat.pow_succ, Nat.div_div_eq_div_mul]
  have e2 : digN (m / 10) i = m / 65536 ^ i / 10 % 65536 := by unfold digN; rw [Nat.div_div_eq_div_mul, Nat.div_div_eq_div_mul, Nat.mul_comm]
  have e3 : digN m i = m / 65536 ^ i % 65536 := rfl
  rw [e1, e2, e3]
  generalize m / 65536 ^ i = a
  omega
theorem len_bound384 (n m k : Nat) (hn : n < 65536 ^ 24) (hm : 0 < m) (h : 10 ^ k * m ≤ n) : k ≤ 115 := by
  rcases Nat.lt_or_ge k 116 with h1 | h1
  · omega
  · exfalso
    have h2 : 10 ^ 116 ≤ 10 ^ k := Nat.pow_le_pow_right (by decide) h1
    have h3 : 10 ^ k * 1 ≤ 10 ^ k * m := Nat.mul_le_mul_left _ hm
    have h4 : 65536 ^ 24 ≤ 10 ^ 116 := by decide
    omega
structure TxtJ (N m : Nat) (ds : List UInt8) : Prop where
  h1 : 0 < m → dec N = dec m ++ ds ∧ 10 ^ ds.length * m ≤ N
  h2 : m = 0 → (N = 0 ∧ ds = []) ∨ dec N = ds
  h3 : ds.length ≤ 116
theorem TxtJ.next {N m : Nat} {ds : List UInt8} (hN : N < 65536 ^ 24) (h : TxtJ N m ds) (hm : 0 < m) : TxtJ N (m / 10) (digB m :: ds) := by
  obtain ⟨h1, h2⟩ := h.h1 hm
  have hl := len_bound384 N m _ hN hm h2
  refine ⟨fun h4 => ?_, fun h4 => ?_, by simp; omega⟩
  · have h5 : 10 ≤ m := by omega
    refine ⟨by rw [h1, dec_ge h5]; simp, ?_⟩
    have h6 : 10 ^ (ds.length + 1) * (m / 10) ≤ 10 ^ ds.length * m := by
      rw [Nat.pow_succ, Nat.mul_assoc]
      exact Nat.mul_le_mul_left _ (by omega)
    simp only [List.length_cons]; omega
  · exact .inr (by rw [h1, dec_lt (by omega)]; rfl)
theorem bytes_1 (b : UInt8) : bytesD [[DV.int .u8 b.toNat]] = some [b] := u8s_bytes [b]

theorem digL_elsOk (n : Nat) : elsOk 1 (digL n) := by
  intro ds h
  simp only [digL, digK, List.mem_map] at h
  obtain ⟨i, _, rfl⟩ := h
  rfl
theorem u32_v (m i : Nat) : IntKind.u32.wrap (IntKind.u32.wrap (((m / 65536 ^ (i + 1) % 10 : Nat) : Int) * 65536) + (digN m i : Int)) = ((m / 65536 ^ (i + 1) % 10 * 65536 + digN m i : Nat) : Int) := by
  have h := digN_lt m i
  have h2 : m / 65536 ^ (i + 1) % 10 < 10 := Nat.mod_lt _ (by decide)
  generalize m / 65536 ^ (i + 1) % 10 = r at *
  generalize digN m i = d at *
  rw [IntKind.wrap_u32, IntKind.wrap_u32]; omega
theorem dig_byte (m : Nat) : IntKind.u8.wrap (IntKind.u32.wrap (48 + ((m / 65536 ^ 0 % 10 : Nat) : Int))) = ((digB m).toNat : Int) := by
  rw [digB_val, Nat.pow_zero, Nat.div_one, IntKind.wrap_u8, IntKind.wrap_u32]; omega
theorem numx_blw (x : Int) : ∀ ds ∈ [numC x], ∀ d ∈ ds, Blw 0 d := by
  intro ds h d hd
  simp only [List.mem_singleton] at h
  subst h
  simp only [numC, List.mem_cons, List.not_mem_nil, or_false] at hd
  rcases hd with rfl | rfl
  · rw [blw_list]; exact blw_digL _
  · simp
theorem textN (x : Int) (hx : x.natAbs < 65536 ^ 24) : FnC Try.prog 31 [numD x] (· = .str (bsA (textL x))) := by
  refine FnC.mk Try.func31 rfl rfl (Nat.le_of_ble_eq_true rfl) blw_num1 (by rintro _ rfl; simp) ?_
  refine appK.go ⟨digL_elsOk _, .lit 24 4 (digL_len _) rfl (by decide) (by decide), ?_⟩
  refine joinK.use [1, 4] (fun s : List UInt8 => [.pobj 0 0 0, .str (bsA s)]) (fun _ => [numPO (numC x)]) (fun s => ((x = 0 ∧ s = []) ∨ dec x.natAbs = s) ∧ s.length ≤ 116) ?_ ?_
  · refine loopK.useG [1, 3, 4] (fun s : Nat × List UInt8 => [.pobj 0 0 0, .ref 1 0 24, .str (bsA s.2)]) (fun s => [numPO (numC x), some ⟨false, 1, 85, digL s.1⟩]) (fun s => TxtJ x.natAbs s.1 s.2 ∧ s.1 ≤ x.natAbs) (fun s => s.1) (x.natAbs, [])
      ⟨⟨fun _ => ⟨by simp, by simp⟩, fun h => .inl ⟨h, rfl⟩, by simp⟩, Nat.le_refl _⟩
      (weak_gc [] [some 0, some 1] rfl ⟨.pobj _ _ _ _ rfl, ren_ref rfl (digL_len _), ren_eq rfl (by simp), trivial⟩ ⟨⟨rfl, rfl, rfl, els_same rfl (numx_blw _)⟩, ⟨rfl, rfl, rfl, els_same rfl (blw_digL _)⟩, trivial⟩) ?_
    rintro ⟨m, ds⟩ ⟨hj, hle⟩
    simp only at hj hle
    have hm384 : m < 65536 ^ 24 := Nat.lt_of_le_of_lt hle hx
    have hsnap : ∀ g : Nat → Option PO, g 1 = some ⟨true, 1, 85, digL m⟩ → Snap g (.ref 1 0 24) (.list (digL m)) := by
      intro g hg
      have := snap_whole hg (blw_digL m)
      rw [show (PO.mk true 1 85 (digL m)).els.length = 24 from digL_len m] at this
      exact this
    refine joinK.direct ?_
    refine callK.lend [1] (isZero m hm384) ⟨hsnap _ rfl, trivial⟩ (by simp) ?_
    refine ⟨fun h => join_go ?_, fun h => ?_⟩
    · have h : (!decide (m = 0)) = true := h
      have hm : 0 < m := by
        have : m ≠ 0 := by simpa using h
        omega
      refine joinK.direct ?_
      refine loopK.use [1, 3, 4, 5, 6] (fun s : Nat => [.pobj 0 0 0, .ref 1 0 24, .str (bsA ds), .int .u32 (m / 65536 ^ s % 10 : Nat), .int .i64 ((s : Int) - 1)]) (fun s => [numPO (numC x), some ⟨false, 1, 85, digM m s⟩])
        (fun s => s ≤ 24) (fun s => s) 24 (by decide) ⟨rfl, rfl, rfl, int_eq (by rw [Nat.div_eq_of_lt hm384]; rfl), rfl, trivial⟩ (.inl ?_) ?_
      · show [numPO (numC x), some (PO.mk false 1 85 (digL m))] = _
        rw [digM_24]
      intro s hs
      refine joinK.direct ⟨fun h2 => join_go ?_, fun h2 => join_go ?_⟩
      · have h2 : 1 ≤ s := by have := of_decide_eq_true h2; omega
        obtain ⟨i, rfl⟩ : ∃ i, s = i + 1 := ⟨s - 1, by omega⟩
        have hi : i < 24 := by omega
        have ei : (((i + 1 : Nat) : Int) - 1).toNat = i := by omega
        have hg : (digM m (i + 1))[0 + (((i + 1 : Nat) : Int) - 1).toNat]? = some (cell32 (digN m i)) := by rw [ei, Nat.zero_add]; exact digM_at m i hi
        have ht := tenth m i
        have hv := u32_v m i
        have hq : IntKind.u32.wrap ((IntKind.u32.wrap (IntKind.u32.wrap (((m / 65536 ^ (i + 1) % 10 : Nat) : Int) * 65536) + (digN m i : Int))).tdiv 10) = (digN (m / 10) i : Int) := by
          rw [hv, show ((m / 65536 ^ (i + 1) % 10 * 65536 + digN m i : Nat) : Int).tdiv 10 = (((m / 65536 ^ (i + 1) % 10 * 65536 + digN m i) / 10 : Nat) : Int) from rfl, ht.1, IntKind.wrap_u32]
          have := digN_lt (m / 10) i
          omega
        have hr : (IntKind.u32.wrap (IntKind.u32.wrap (((m / 65536 ^ (i + 1) % 10 : Nat) : Int) * 65536) + (digN m i : Int))).tmod 10 = ((m / 65536 ^ i % 10 : Nat) : Int) := by
          rw [hv, ← ht.2]; rfl
        have hset : (digM m (i + 1)).set (0 + (((i + 1 : Nat) : Int) - 1).toNat) [.int .u32 (IntKind.u32.wrap ((IntKind.u32.wrap (IntKind.u32.wrap (((m / 65536 ^ (i + 1) % 10 : Nat) : Int) * 65536) + (digN m i : Int))).tdiv 10))] = digM m i := by
          rw [hq, ei, Nat.zero_add]; exact digM_set m i hi
        have h0 : (0 : Int) ≤ ((i + 1 : Nat) : Int) - 1 := by omega
        have h24 : ((i + 1 : Nat) : Int) - 1 < 24 := by omega
        refine ⟨h0, h24, optK.mk rfl ?_⟩
        refine optK.mk hg ?_
        refine ⟨rfl, by decide, ?_⟩
        refine ⟨h0, h24, optK.mk rfl ?_⟩
        refine optK.mk hg ?_
        refine ⟨rfl, by decide, ?_⟩
        refine loop_next i (by omega) (by omega) ⟨rfl, rfl, rfl, int_eq hr, int_eq ?_, trivial⟩ (.inl ?_)
        · rw [IntKind.wrap_i64]; omega
        · exact congrArg (fun e => [numPO (numC x), some (PO.mk false 1 85 e)]) hset
      · have h2 : s = 0 := by have := of_decide_eq_false h2; omega
        subst h2
        have hb : UInt8.ofNat (IntKind.u8.wrap (IntKind.u32.wrap (48 + ((m / 65536 ^ 0 % 10 : Nat) : Int)))).toNat = digB m := by rw [dig_byte, Int.toNat_natCast]; exact UInt8.ofNat_toNat
        have hds := hj.h3
        refine ⟨?_, ?_⟩
        · show ((((bsA [UInt8.ofNat (IntKind.u8.wrap (IntKind.u32.wrap (48 + ((m / 65536 ^ 0 % 10 : Nat) : Int)))).toNat]).size + (bsA ds).size : Nat)) : Int) ≤ _
          rw [bsA_size, bsA_size]; simp [IntKind.max, IntKind.bits, IntKind.signed]; omega
        refine loop_gc (m / 10, digB m :: ds) ⟨hj.next hx hm, by simp only; omega⟩ (by simp only; omega) (weak_gc [] [some 0, some 1] rfl ⟨.pobj _ _ _ _ rfl, ren_ref rfl rfl, ren_eq ?_ (by simp), trivial⟩ ⟨⟨rfl, rfl, rfl, els_same rfl (numx_blw _)⟩, ⟨rfl, rfl, rfl, els_same (digM_0 m) (blw_digL _)⟩, trivial⟩)
        exact congrArg DV.str ((bsA_app [_] ds).trans (congrArg (fun b => bsA (b :: ds)) hb))
    · have h : (!decide (m = 0)) = false := h
      have hm : m = 0 := by simpa using h
      have hds := hj.h3
      have hend := hj.h2 hm
      refine join_gc ds ⟨?_, hds⟩ (weak_gc [] [some 0] rfl ⟨.pobj _ _ _ _ rfl, ren_eq rfl (by simp), trivial⟩ ⟨⟨rfl, rfl, rfl, els_same rfl (numx_blw _)⟩, trivial⟩)
      rcases hend with ⟨e1, e2⟩ | e
      · exact .inl ⟨by omega, e2⟩
      · exact .inr e
  rintro s ⟨hs, hsl⟩
  have hz : ((bsA s).toList == (ByteArray.mk #[]).toList) = decide (s = []) := str_cmp s []
  refine joinK.direct ⟨fun h => ?_, fun h => join_go ?_⟩
  · have h : s = [] := of_decide_eq_true (hz.symm.trans h)
    have h0 : x = 0 := by
      rcases hs with ⟨e, _⟩ | e
      · exact e
      · rw [h] at e; exact absurd e (dec_facts _).2.2.2
    refine fin_eq (.str _) rfl ?_
    rw [h0, show textL 0 = [48] from by unfold textL; rw [if_neg (by decide), show (0 : Int).natAbs = 0 from rfl, dec_lt (by decide)]; rfl]
    rfl
  · have h : ¬ s = [] := of_decide_eq_false (hz.symm.trans h)
    have hd : dec x.natAbs = s := by
      rcases hs with ⟨_, e⟩ | e
      · exact absurd e h
      · exact e
    refine joinK.direct ⟨fun h2 => ?_, fun h2 => join_go ?_⟩
    · have h2 : x < 0 := of_decide_eq_true h2
      refine ⟨?_, ?_⟩
      · show ((((bsA [45]).size + (bsA s).size : Nat)) : Int) ≤ _
        rw [bsA_size, bsA_size]; simp [IntKind.max, IntKind.bits, IntKind.signed]; omega
      refine fin_eq (.str _) rfl ?_
      refine (congrArg DV.str (bsA_app [45] s)).trans ?_
      unfold textL; rw [if_pos h2, hd]
    · have h2 : ¬ x < 0 := of_decide_eq_false h2
      refine fin_eq (.str _) rfl ?_
      unfold textL; rw [if_neg h2, hd]; rfl
end Go.Proofs.Ytckcagmlippneaa
