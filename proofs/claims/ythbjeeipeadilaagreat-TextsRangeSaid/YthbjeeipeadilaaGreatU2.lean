/- TextsRanges: the searches of the program. -/
import Derived.Test.YthbjeeipeadilaaGreatT1
import Derived.Test.YthbjeeipeadilaaGreatPv9
import Derived.Test.YthbjeeipeadilaaGreatProg
namespace Go.Proofs.YthbjeeipeadilaaGreat
open Go Go.Pv Go.RowKit
set_option linter.unusedSimpArgs false
set_option linter.unusedVariables false
set_option maxRecDepth 10000

theorem callK_st {P : Program} {f : FuncId} {ds : List DV} {σ : Objs} {K : DV → Objs → Prop} {S : Type} {R : S → Prop} {g : S → DV} (hf : FnC P f ds (fun d => ∃ s, R s ∧ d = g s)) (hK : ∀ s, R s → K (g s) σ) : callK P f ds σ K :=
  callK.intro hf fun d ⟨s, h, e⟩ => e ▸ hK s h
def strs (l : List BL) : List (List DV) := l.map fun s => [.str (bsA s)]
theorem strs_len (l : List BL) : (strs l).length = l.length := by simp [strs]
theorem strs_blw (l : List BL) : ∀ ds ∈ strs l, ∀ d ∈ ds, Blw 0 d := by
  intro ds hds d hd
  obtain ⟨s, _, rfl⟩ := List.mem_map.1 hds
  simp at hd; subst hd; simp
theorem strs_get {l : List BL} {i : Nat} {s : BL} (h : l[i]? = some s) : (strs l)[i]? = some [.str (bsA s)] := by unfold strs; rw [List.getElem?_map, h]; rfl
theorem strD_blw (l : List BL) : Blw 0 (.list (strs l)) := by rw [blw_list]; exact strs_blw l
theorem toL_beq (a b : BL) : ((bsA a).toList == (bsA b).toList) = decide (a = b) := str_cmp a b
theorem toL_lt (a b : BL) : Op.bytesLess (bsA a).toList (bsA b).toList = blt a b := by rw [bsA_toList, bsA_toList]; rfl

theorem nanC (a : BL) : FnC Tryz.prog 180 [.str (bsA a)] (· = .bool false) := by
  have h : (!((bsA a).toList == (bsA a).toList)) = false := by rw [toL_beq]; simp
  refine FnC.mk Tryz.func180 rfl rfl (Nat.le_of_ble_eq_true rfl) (by simp) (by rintro _ rfl; simp) ?_
  exact fin_eq (.bool _) rfl (bool_eq h)
theorem nanS (a : BL) : FnC Tryz.prog 116 [.str (bsA a)] (· = .bool false) := by
  have h : (!((bsA a).toList == (bsA a).toList)) = false := by rw [toL_beq]; simp
  refine FnC.mk Tryz.func116 rfl rfl (Nat.le_of_ble_eq_true rfl) (by simp) (by rintro _ rfl; simp) ?_
  exact fin_eq (.bool _) rfl (bool_eq h)
theorem lessC (a b : BL) : FnC Tryz.prog 115 [.str (bsA a), .str (bsA b)] (· = .bool (blt a b)) := by
  have h := toL_lt a b
  refine FnC.mk Tryz.func115 rfl rfl (Nat.le_of_ble_eq_true rfl) (by simp) (by rintro _ rfl; simp) ?_
  refine guardK.spec ?_
  refine callK.eq (nanC a) ?_
  refine callE.mk (nanC b) ?_
  exact fin_eq (.bool _) rfl (bool_eq h)
theorem mid_of (i j : Nat) (hij : i < j) (hj : j ≤ maxLen) :
    IntKind.i64.wrap ((IntKind.u64.wrap (IntKind.i64.wrap ((i : Int) + j))).fdiv (2 ^ (min (1 : Int).toNat IntKind.u64.bits))) = (((i + j) / 2 : Nat) : Int) := by
  unfold maxLen at hj
  rw [show (2 : Int) ^ (min (1 : Int).toNat IntKind.u64.bits) = 2 from rfl, IntKind.wrap_i64, IntKind.wrap_u64, IntKind.wrap_i64, Int.fdiv_eq_ediv_of_nonneg _ (by omega)]
  omega
theorem searchC (l : List BL) (x : BL) (hl : l.length ≤ maxLen) :
    FnC Tryz.prog 70 [.list (strs l), .str (bsA x)] (fun d => ∃ s : Nat × Bool, Ends l (blt · x) s.1 ∧ d = .tup [.int .i64 s.1, .bool s.2]) := by
  have hlen := strs_len l
  refine FnC.mk Tryz.func70 rfl rfl (Nat.le_of_ble_eq_true rfl) (by intro d hd; simp at hd; rcases hd with rfl | rfl; exact strD_blw l; simp) (by rintro _ ⟨s, _, rfl⟩; simp) ?_
  refine joinK.use [0, 1, 6, 7] (fun p : Nat => [.list (strs l), .str (bsA x), .int .i64 l.length, .int .i64 p]) (fun _ => []) (fun p => Ends l (blt · x) p) ?_ ?_
  · refine loopK.use [0, 1, 6, 7, 8] (fun s : Nat × Nat => [.list (strs l), .str (bsA x), .int .i64 l.length, .int .i64 s.1, .int .i64 s.2]) (fun _ => [])
      (fun s => s.1 ≤ s.2 ∧ s.2 ≤ l.length ∧ (∀ a, 0 < s.1 → l[s.1 - 1]? = some a → blt a x = true) ∧ (∀ a, l[s.2]? = some a → blt a x = false)) (fun s => s.2 - s.1) (0, l.length)
      ⟨Nat.zero_le _, Nat.le_refl _, fun a h => absurd h (by omega), fun a h => by rw [List.getElem?_eq_none (by omega)] at h; cases h⟩ ⟨rfl, rfl, int_eq (by rw [hlen]), rfl, int_eq (by rw [hlen]), trivial⟩ (.inl rfl) ?_
    rintro ⟨i, j⟩ ⟨h1, h2, h3, h4⟩
    simp only at h1 h2 h3 h4
    by_cases hij : i < j
    · have hm := mid_of i j hij (by omega)
      have hd : decide ((i : Int) < (j : Int)) = true := decide_eq_true (by omega)
      obtain ⟨m, hmm⟩ : ∃ m, m = (i + j) / 2 := ⟨_, rfl⟩
      rw [← hmm] at hm
      have b1 : i ≤ m := by omega
      have b2 : m < j := by omega
      have b3 : m < l.length := by omega
      clear hmm
      have hg := List.getElem?_eq_getElem b3
      generalize l[m] = y at *
      have hsg := strs_get hg
      have e0 : (0 : Int) ≤ (m : Int) := by omega
      have e1 : (m : Int) < ((strs l).length : Int) := by rw [hlen]; omega
      have e2 : (m : Int).toNat = m := by omega
      have e3 : IntKind.i64.wrap ((m : Int) + 1) = ((m + 1 : Nat) : Int) := by unfold maxLen at hl; rw [IntKind.wrap_i64]; omega
      have f1 : m + 1 ≤ j := by omega
      have f2 : j - (m + 1) < j - i := by omega
      have f3 : m ≤ l.length := by omega
      have f4 : m - i < j - i := by omega
      rw [← e2] at hsg
      rw [← hm] at e0 e1 hsg e3
      refine joinK.direct ?_
      refine ⟨fun _ => join_go ?_, fun h => absurd (hd.symm.trans h) (by decide)⟩
      refine ⟨by decide, ?_⟩
      refine ⟨e0, e1, optK.mk hsg ?_⟩
      refine callK.eq (lessC y x) ?_
      refine ⟨fun h => ?_, fun h => ?_⟩
      · refine loop_next (m + 1, j) ⟨f1, h2, fun a _ ha => ?_, h4⟩ f2 ⟨rfl, rfl, rfl, int_eq e3, rfl, trivial⟩ (.inl rfl)
        rw [Nat.add_sub_cancel, hg] at ha; cases ha; exact h
      · refine loop_next (i, m) ⟨b1, f3, h3, fun a ha => ?_⟩ f4 ⟨rfl, rfl, rfl, rfl, int_eq hm, trivial⟩ (.inl rfl)
        rw [hg] at ha; cases ha; exact h
    · have hd : decide ((i : Int) < (j : Int)) = false := decide_eq_false (by omega)
      have e : i = j := by omega
      subst e
      refine joinK.direct ?_
      refine ⟨fun h => absurd (hd.symm.trans h) (by decide), fun _ => ?_⟩
      exact join_at i ⟨h2, h3, h4⟩ ⟨rfl, rfl, rfl, rfl, trivial⟩ (.inl rfl)
  intro p hp
  by_cases hpl : p < l.length
  · have hg := List.getElem?_eq_getElem hpl
    generalize l[p] = y at *
    have hsg := strs_get hg
    have e0 : (0 : Int) ≤ (p : Int) := by omega
    have e1 : (p : Int) < ((strs l).length : Int) := by rw [hlen]; omega
    have e2 : (p : Int).toNat = p := by omega
    have hd : decide ((p : Int) < (l.length : Int)) = true := decide_eq_true (by omega)
    rw [← e2] at hsg
    refine guardK.split ?_
    refine ⟨fun _ => ?_, fun h => absurd (hd.symm.trans h) (by decide)⟩
    refine ⟨e0, e1, optK.mk hsg ?_⟩
    refine ⟨fun h => ?_, fun h => ?_⟩
    · refine ⟨e0, e1, optK.mk hsg ?_⟩
      show callK _ _ _ _ _
      refine callK.eq (nanS y) ?_
      refine ⟨fun h => absurd h (by decide), fun _ => ?_⟩
      exact .inl ⟨(p, _), hp, rfl⟩
    · exact .inl ⟨(p, _), hp, rfl⟩
  · have hd : decide ((p : Int) < (l.length : Int)) = false := decide_eq_false (by omega)
    refine guardK.split ?_
    refine ⟨fun h => absurd (hd.symm.trans h) (by decide), fun _ => ?_⟩
    exact .inl ⟨(p, _), hp, rfl⟩
theorem floorC (l : List BL) (x : BL) (hl : l.length ≤ maxLen) : FnC Tryz.prog 37 [.list (strs l), .str (bsA x)] (fun d => ∃ p : Nat, Ends l (blt · x) p ∧ d = .int .i64 p) := by
  refine FnC.mk Tryz.func37 rfl rfl (Nat.le_of_ble_eq_true rfl) (by intro d hd; simp at hd; rcases hd with rfl | rfl; exact strD_blw l; simp) (by rintro _ ⟨s, _, rfl⟩; simp) ?_
  refine callK_st (searchC l x hl) ?_
  rintro ⟨p, b⟩ hp
  exact .inl ⟨p, hp, rfl⟩
theorem extract_pre (b k : BL) : ((bsA k).extract 0 (bsA b).size).toList = k.take b.length := by rw [bsA_extract, bsA_toList, bsA_size, List.drop_zero]
theorem pre_val {b k : BL} (h : b.length ≤ k.length) : (((bsA k).extract 0 (((bsA b).size : Nat) : Int).toNat).toList == (bsA b).toList) = pre b k := by
  rw [Int.toNat_natCast, extract_pre, bsA_toList]
  unfold pre
  rw [decide_eq_true h, Bool.eq_iff_iff]
  simp
theorem prefS (k b : BL) (hk : k.length ≤ maxLen) : FnC Tryz.prog 71 [.str (bsA k), .str (bsA b)] (· = .bool (pre b k)) := by
  have z1 := bsA_size k
  have z2 := bsA_size b
  refine FnC.mk Tryz.func71 rfl rfl (Nat.le_of_ble_eq_true rfl) (by simp) (by rintro _ rfl; simp) ?_
  refine guardK.split ?_
  refine ⟨fun h => ?_, fun h => ?_⟩
  · have h : b.length ≤ k.length := by have := of_decide_eq_true h; omega
    refine ⟨by omega, by omega, ?_⟩
    refine fin_eq (.bool _) rfl (bool_eq ?_)
    exact pre_val h
  · have h : ¬ b.length ≤ k.length := by have := of_decide_eq_false h; omega
    refine fin_eq (.bool _) rfl (bool_eq ?_)
    unfold pre; rw [decide_eq_false h]; rfl
theorem hasPre (k b : BL) (hk : k.length ≤ maxLen) : FnC Tryz.prog 40 [.str (bsA k), .str (bsA b)] (· = .bool (pre b k)) := by
  refine FnC.mk Tryz.func40 rfl rfl (Nat.le_of_ble_eq_true rfl) (by simp) (by rintro _ rfl; simp) ?_
  refine callK.eq (prefS k b hk) ?_
  exact fin_eq (.bool _) rfl rfl

/-- What the closure holds: the keys, the beginning, from where. -/
def capO (l : List BL) (b : BL) (p : Nat) : Objs := [some ⟨false, 1, 33, [[.list (strs l)]]⟩, some ⟨false, 1, 9, [[.str (bsA b)]]⟩, some ⟨false, 1, 3, [[.int .i64 p]]⟩]
theorem callK_own {P : Program} {f : FuncId} {ds : List DV} {σ : Objs} {K : DV → Objs → Prop} {R : DV → Objs → Prop} (hf : FnS P f ds σ R) (hK : ∀ d s, R d s → K d s) : callK P f ds σ K := by
  unfold callK; exact .inr (.inr ⟨_, hf, hK⟩)
theorem closS (l : List BL) (b : BL) (p i : Nat) (y : BL) (hl : l.length ≤ maxLen) (hy : y.length ≤ maxLen) (hg : l[p + i]? = some y) :
    FnS Tryz.prog 39 [.int .i64 i, .pobj 0 0 0, .pobj 2 0 0, .pobj 1 0 0] (capO l b p) (fun d s => d = .bool (!pre b y) ∧ s = capO l b p) := by
  have hpi : p + i < l.length := (List.getElem?_eq_some_iff.1 hg).1
  have hlen := strs_len l
  have hsg := strs_get hg
  have hw : IntKind.i64.wrap ((p : Int) + i) = ((p + i : Nat) : Int) := by unfold maxLen at hl; rw [IntKind.wrap_i64]; omega
  have e0 : (0 : Int) ≤ ((p + i : Nat) : Int) := by omega
  have e1 : ((p + i : Nat) : Int) < ((strs l).length : Int) := by rw [hlen]; omega
  have e2 : ((p + i : Nat) : Int).toNat = p + i := by omega
  rw [← e2] at hsg
  rw [← hw] at e0 e1 hsg
  refine FnS.mk Tryz.func39 rfl rfl (Nat.le_of_ble_eq_true rfl) ?_
  refine drawK.mk (by kernel_rfl) ?_
  refine ⟨e0, e1, optK.mk hsg ?_⟩
  refine callE.mk (hasPre y b hy) ?_
  exact finS_eq rfl rfl
end Go.Proofs.YthbjeeipeadilaaGreat
