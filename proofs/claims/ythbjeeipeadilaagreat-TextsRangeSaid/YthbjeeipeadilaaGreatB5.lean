/- The package bits: Clone, Of, Put; chunk.Spread and its reference. -/
import Derived.Test.YthbjeeipeadilaaGreatB4
set_option linter.unusedSimpArgs false
set_option linter.unusedVariables false
set_option maxRecDepth 10000
namespace Go.Proofs.YthbjeeipeadilaaGreat
open Go Go.Pv Go.RowKit

theorem list_blw {xs : List (List DV)} (h : ∀ ds ∈ xs, ∀ d ∈ ds, Blw 0 d) : Blw 0 (.list xs) := by rw [blw_list]; exact h
theorem w64_shape (l : List Bool) : w64 l = [] ∨ ∃ x xs, w64 l = [.int .u64 x] :: xs := by
  unfold w64
  cases wds l with
  | nil => exact .inl rfl
  | cons x xs => exact .inr ⟨x, _, rfl⟩
theorem cloneC (l : List Bool) (hl : l.length ≤ 16777216) : FnC Tryz.prog 63 [.list (w64 l)] (· = .list (w64 l)) := by
  have hp : ∀ d ∈ [DV.list (w64 l)], Blw 0 d := by intro d hd; simp at hd; subst hd; exact list_blw (w64_blw l)
  have hlen := w64_length l
  have hone := w64_one l
  have hb := w64_blw l
  rcases w64_shape l with h | ⟨x, xs, h⟩
  · rw [h]
    refine FnS.toC (cloneL []) (by simp) (fun d s ⟨e1, e2⟩ => ?_) (by rintro _ rfl; simp)
    subst e1; subst e2
    exact ⟨_, .ref _ _ _ ⟨false, 1, 37, []⟩ [] rfl rfl (fun i ds e => by simp at e) (fun i ds es j d e e1 => by simp at e1), rfl⟩
  · rw [h] at hp hlen hone hb ⊢
    refine FnC.mk Tryz.func63 rfl rfl (Nat.le_of_ble_eq_true rfl) hp (by rintro _ rfl; exact list_blw hb) ?_
    refine joinK.direct ?_
    refine ⟨fun h => absurd h (by decide), fun _ => join_go ?_⟩
    refine appK.go ⟨fun ds hds => hone ds hds, rfl, .at 8 rfl (by show 0 + _ ≤ _; rw [Nat.zero_add, hlen]; unfold maxLen; omega) (by show (0 + _) * 8 ≤ _; rw [Nat.zero_add, hlen]; omega), ?_⟩
    refine .inr ⟨_, ?_, rfl⟩
    show Snap _ (.ref _ 0 (0 + ([DV.int .u64 x] :: xs).length)) _
    have := snap_whole (g := obj [none, some ⟨false, 1, 37, [DV.int .u64 x] :: xs⟩]) (id := 1) rfl hb
    rw [Nat.zero_add]
    exact this
theorem cloneSet (l : List Bool) (hl : l.length ≤ 16777216) : FnC Tryz.prog 26 [setP l] (· = setP l) := by
  have hb := w64_blw l
  refine FnC.mk Tryz.func26 rfl rfl (Nat.le_of_ble_eq_true rfl) (by intro d hd; simp at hd; subst hd; exact setP_blw l) (by rintro _ rfl; exact setP_blw l) ?_
  refine joinK.direct ?_
  refine ⟨fun h => absurd h (by decide), fun _ => join_go ?_⟩
  refine drawK.mk (by kernel_rfl) ?_
  refine callE.mk (cloneC l hl) ?_
  refine .inr ⟨_, ?_, rfl⟩
  refine .pobj _ _ _ _ _ _ rfl rfl (Nat.le_refl _) fun k d e h1 h2 => ?_
  match k with
  | 0 => simp at h1 h2; subst h1; subst h2; exact .pure _ (by simp)
  | 1 => simp at h1 h2; subst h1; subst h2; exact .pure _ (list_blw hb)
  | k + 2 => simp at h1
theorem w64_set {l l' : List Bool} {j v : Nat} (h : (wds l).set j v = wds l') : (w64 l).set j [.int .u64 (v : Int)] = w64 l' := by
  unfold w64; rw [← h, List.map_set]
theorem shl_one (k : Nat) (hk : k < 64) : IntKind.u64.wrap (1 * 2 ^ min (k : Int).toNat IntKind.u64.bits) = ((2 ^ k : Nat) : Int) := by
  have : (2 : Nat) ^ k < 2 ^ 64 := Nat.pow_lt_pow_right (by omega) hk
  rw [Int.toNat_natCast, Nat.min_eq_left (show k ≤ IntKind.u64.bits by show _ ≤ 64; omega), Int.one_mul, show (2 : Int) ^ k = ((2 ^ k : Nat) : Int) from by rw [Int.natCast_pow]; rfl, IntKind.wrap_u64]
  generalize 2 ^ k = m at *
  omega
/-- What a word becomes where a bit is put. -/
theorem put_word (l : List Bool) (i : Nat) (hi : i < l.length) : (w64 l).set (i / 64) [.int .u64 (Go.bits .or .u64 ((wd l (i / 64) : Nat) : Int) (IntKind.u64.wrap (1 * 2 ^ min ((i % 64 : Nat) : Int).toNat IntKind.u64.bits)))] = w64 (l.set i true) := by
  have hlt : (2 : Nat) ^ (i % 64) < 2 ^ 64 := Nat.pow_lt_pow_right (by omega) (by omega)
  rw [shl_one _ (by omega), bits_or_u64_nat _ _ (by have := wd_lt l (i / 64); omega) (by omega)]
  exact w64_set (wds_put hi)
theorem setO_eq {l l' : List Bool} {ws : List (List DV)} (h : ws = w64 l') (hl : l.length = l'.length) : [some (⟨false, 1, 37, ws⟩ : PO), some ⟨false, 2, 70, [[.int .i64 (l.length : Nat), .ref 0 0 ((l.length + 63) / 64)]]⟩] = setO l' := by
  unfold setO; rw [h, hl]
theorem putS (l : List Bool) (i : Nat) (hi : i < l.length) (hl : l.length ≤ 16777216) : FnS Tryz.prog 29 [.pobj 1 0 0, .int .i64 (i : Nat), .bool true] (setO l) (fun d s => d = .int .i64 0 ∧ s = setO (l.set i true)) := by
  have h0 : (bif decide ((i : Int) < 0) then true else decide ((i : Int) ≥ (l.length : Nat))) = false := by rw [decide_eq_false (by omega), decide_eq_false (by omega)]; rfl
  have hq : IntKind.i64.wrap ((i : Int).tdiv 64) = ((i / 64 : Nat) : Int) := tdiv_nat i 64 (by omega)
  have hr : (i : Int).tmod 64 = ((i % 64 : Nat) : Int) := tmod_nat i 64
  have hz : 0 + (IntKind.i64.wrap ((i : Int).tdiv 64)).toNat = i / 64 := by rw [hq, Int.toNat_natCast, Nat.zero_add]
  have hg : (w64 l)[0 + (IntKind.i64.wrap ((i : Int).tdiv 64)).toNat]? = some [.int .u64 (wd l (i / 64) : Nat)] := by rw [hz]; exact w64_get (by omega)
  have e0 : (0 : Int) ≤ IntKind.i64.wrap ((i : Int).tdiv 64) := by rw [hq]; omega
  have e1 : IntKind.i64.wrap ((i : Int).tdiv 64) < (((l.length + 63) / 64 : Nat) : Int) := by rw [hq]; omega
  have e3 : (0 : Int) ≤ (i : Int).tmod 64 := by rw [hr]; omega
  have hput := put_word l i hi
  generalize wd l (i / 64) = w at *
  rw [← hr, ← hz] at hput
  refine FnS.mk Tryz.func29 rfl rfl (Nat.le_of_ble_eq_true rfl) ?_
  refine joinK.direct ?_
  refine ⟨fun h => absurd h (by decide), fun _ => ?_⟩
  refine guardK.spec ?_
  refine ⟨fun h => absurd (h0.symm.trans h) (by decide), fun _ => ?_⟩
  refine ⟨fun _ => ?_, fun h => absurd h (by decide)⟩
  refine drawK.mk (by kernel_rfl) ?_
  refine ⟨rfl, by decide, ?_⟩
  refine ⟨e0, e1, optK.mk rfl ?_⟩
  refine optK.mk hg ?_
  refine ⟨rfl, by decide, ?_⟩
  refine ⟨e3, ?_⟩
  refine ⟨e0, e1, optK.mk rfl ?_⟩
  refine optK.mk hg ?_
  refine join_go ?_
  exact finS_eq rfl (setO_eq hput (by rw [List.length_set]))
def bools (b : List Bool) : List (List DV) := b.map fun x => [.bool x]
theorem bools_length (b : List Bool) : (bools b).length = b.length := by simp [bools]
theorem bools_get {b : List Bool} {i : Nat} {x : Bool} (h : b[i]? = some x) : (bools b)[i]? = some [.bool x] := by unfold bools; rw [List.getElem?_map, h]; rfl
theorem bools_blw (b : List Bool) : ∀ ds ∈ bools b, ∀ d ∈ ds, Blw 0 d := by
  intro ds hds d hd
  obtain ⟨x, _, rfl⟩ := List.mem_map.1 hds
  simp at hd; subst hd; simp
/-- The first i of them. -/
def upto (b : List Bool) (i : Nat) : List Bool := b.take i ++ List.replicate (b.length - i) false
theorem upto_length (b : List Bool) (i : Nat) (h : i ≤ b.length) : (upto b i).length = b.length := by unfold upto; simp; omega
theorem upto_zero (b : List Bool) : upto b 0 = List.replicate b.length false := by simp [upto]
theorem upto_all (b : List Bool) : upto b b.length = b := by simp [upto]
theorem upto_step {b : List Bool} {i : Nat} {x : Bool} (h : b[i]? = some x) : (upto b i).set i x = upto b (i + 1) := by
  have hi := (List.getElem?_eq_some_iff.1 h).1
  apply List.ext_getElem?
  intro k
  unfold upto
  rw [List.getElem?_set, List.getElem?_append, List.getElem?_append, List.length_take, List.length_take, List.length_append, List.length_take, List.length_replicate]
  by_cases hk : i = k
  · subst hk
    rw [if_pos rfl, if_pos (by omega), if_pos (by omega), List.getElem?_take, if_pos (by omega), h]
  · rw [if_neg hk]
    by_cases hk2 : k < i
    · rw [if_pos (by omega), if_pos (by omega), List.getElem?_take, List.getElem?_take, if_pos hk2, if_pos (by omega)]
    · rw [if_neg (by omega), if_neg (by omega), List.getElem?_replicate, List.getElem?_replicate]
      by_cases hk3 : k < b.length
      · rw [if_pos (by omega), if_pos (by omega)]
      · rw [if_neg (by omega), if_neg (by omega)]
theorem upto_at {b : List Bool} {i : Nat} (h : i < b.length) : (upto b i)[i]? = some false := by
  unfold upto
  rw [List.getElem?_append_right (by rw [List.length_take]; omega), List.length_take, Nat.min_eq_left (by omega), Nat.sub_self, List.getElem?_replicate, if_pos (by omega)]
theorem set_self {l : List Bool} {i : Nat} {x : Bool} (h : l[i]? = some x) : l.set i x = l := by
  apply List.ext_getElem?
  intro k
  rw [List.getElem?_set]
  by_cases hk : i = k
  · subst hk; rw [if_pos rfl, if_pos (List.getElem?_eq_some_iff.1 h).1, h]
  · rw [if_neg hk]
theorem ofS (b : List Bool) (hl : b.length ≤ 16777216) : FnS Tryz.prog 9 [.list (bools b)] [] (fun d s => d = .pobj 1 0 0 ∧ s = setO b) := by
  have hbl := bools_length b
  have cn := newS b.length hl
  rw [← hbl] at cn
  refine FnS.mk Tryz.func9 rfl rfl (Nat.le_of_ble_eq_true rfl) ?_
  refine callK.id cn ?_
  refine joinK.direct ?_
  refine ⟨fun h => absurd h (by decide), fun _ => join_go ?_⟩
  have hs0 : setO (List.replicate (bools b).length false) = setO (upto b 0) := by rw [hbl, upto_zero]
  refine joinK.use [3] (fun _ : Unit => [.pobj 1 0 0]) (fun _ => setO b) (fun _ => True) ?_ ?_
  · refine loopK.use [3, 11, 12, 13] (fun i : Nat => [.pobj 1 0 0, .list (bools b), .int .i64 (b.length : Nat), .int .i64 i]) (fun i => setO (upto b i)) (fun i => i ≤ b.length) (fun i => b.length - i) 0 (Nat.zero_le _)
      ⟨rfl, rfl, int_eq (by rw [hbl]), rfl, trivial⟩ (.inl hs0) ?_
    intro i hi
    by_cases hil : i < b.length
    · have hd : decide ((i : Int) < (b.length : Nat)) = true := decide_eq_true (by omega)
      have hg0 := List.getElem?_eq_getElem hil
      have hst := upto_step hg0
      have hat := upto_at hil
      have hul := upto_length b i hi
      generalize b[i] = x at *
      have hbg : (bools b)[(i : Int).toNat]? = some [.bool x] := by rw [Int.toNat_natCast]; exact bools_get hg0
      have e0 : (0 : Int) ≤ (i : Int) := by omega
      have e1 : (i : Int) < ((bools b).length : Int) := by rw [hbl]; omega
      have hw1 : IntKind.i64.wrap ((i : Int) + 1) = ((i + 1 : Nat) : Int) := by rw [IntKind.wrap_i64]; omega
      have f1 : i + 1 ≤ b.length := by omega
      have f2 : b.length - (i + 1) < b.length - i := by omega
      refine joinK.direct ?_
      refine ⟨fun _ => join_go ?_, fun h => absurd (hd.symm.trans h) (by decide)⟩
      refine joinK.direct ?_
      refine ⟨e0, e1, optK.mk hbg ?_⟩
      refine ⟨fun hx => ?_, fun hx => join_go ?_⟩
      · have hx : x = true := hx
        subst hx
        have hq : IntKind.i64.wrap ((i : Int).tdiv 64) = ((i / 64 : Nat) : Int) := tdiv_nat i 64 (by omega)
        have hr : (i : Int).tmod 64 = ((i % 64 : Nat) : Int) := tmod_nat i 64
        have hz : 0 + (IntKind.i64.wrap ((i : Int).tdiv 64)).toNat = i / 64 := by rw [hq, Int.toNat_natCast, Nat.zero_add]
        have hg : (w64 (upto b i))[0 + (IntKind.i64.wrap ((i : Int).tdiv 64)).toNat]? = some [.int .u64 (wd (upto b i) (i / 64) : Nat)] := by rw [hz]; exact w64_get (by omega)
        have e0 : (0 : Int) ≤ IntKind.i64.wrap ((i : Int).tdiv 64) := by rw [hq]; omega
        have e1 : IntKind.i64.wrap ((i : Int).tdiv 64) < ((((upto b i).length + 63) / 64 : Nat) : Int) := by rw [hq]; omega
        have e3 : (0 : Int) ≤ (i : Int).tmod 64 := by rw [hr]; omega
        have hput := put_word (upto b i) i (by omega)
        rw [hst] at hput
        generalize wd (upto b i) (i / 64) = w at *
        rw [← hr, ← hz] at hput
        have hfin := setO_eq (l := upto b i) hput (by rw [hul, upto_length b _ f1])
        refine drawK.mk (by kernel_rfl) ?_
        refine ⟨rfl, by decide, ?_⟩
        refine ⟨e0, e1, optK.mk rfl ?_⟩
        refine optK.mk hg ?_
        refine ⟨rfl, by decide, ?_⟩
        refine ⟨e3, ?_⟩
        refine ⟨e0, e1, optK.mk rfl ?_⟩
        refine optK.mk hg ?_
        refine join_go ?_
        exact loop_next (i + 1) f1 f2 ⟨rfl, rfl, rfl, int_eq hw1, trivial⟩ (.inl hfin)
      · have hx : x = false := hx
        subst hx
        rw [set_self hat] at hst
        have hfin : setO (upto b i) = setO (upto b (i + 1)) := by rw [← hst]
        exact loop_next (i + 1) f1 f2 ⟨rfl, rfl, rfl, int_eq hw1, trivial⟩ (.inl hfin)
    · have hd : decide ((i : Int) < (b.length : Nat)) = false := decide_eq_false (by omega)
      have e : i = b.length := by omega
      subst e
      have hfin : setO (upto b b.length) = setO b := by rw [upto_all]
      refine joinK.direct ?_
      refine ⟨fun h => absurd (hd.symm.trans h) (by decide), fun _ => ?_⟩
      exact join_at () trivial ⟨rfl, trivial⟩ (.inl hfin)
  rintro ⟨⟩ -
  exact finS_eq rfl rfl
theorem ofC (b : List Bool) (hl : b.length ≤ 16777216) : FnC Tryz.prog 9 [.list (bools b)] (· = setP b) :=
  FnS.toC (ofS b hl) (by intro d hd; simp at hd; subst hd; exact list_blw (bools_blw b)) (fun d s ⟨e1, e2⟩ => by subst e1; subst e2; exact ⟨_, setO_snap b, rfl⟩) (by rintro _ rfl; exact setP_blw b)
end Go.Proofs.YthbjeeipeadilaaGreat
