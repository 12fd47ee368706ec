/- chunk.Spread and its reference; are two sets the same? -/
import Derived.Test.YthbjeeipeadilaaGreatB5
set_option linter.unusedSimpArgs false
set_option linter.unusedVariables false
set_option maxRecDepth 10000
namespace Go.Proofs.YthbjeeipeadilaaGreat
open Go Go.Pv Go.RowKit

/-- What is known of the dense values, told of the rows. -/
def spr : List Bool → List Bool → List Bool
  | _, [] => []
  | d, true :: ns => false :: spr d ns
  | d, false :: ns => d.headD false :: spr d.tail ns
theorem spr_length : ∀ (d n : List Bool), (spr d n).length = n.length
  | _, [] => rfl
  | d, true :: ns => by simp [spr, spr_length d ns]
  | d, false :: ns => by simp [spr, spr_length d.tail ns]
theorem spr_get : ∀ (d n : List Bool) (i : Nat) (x : Bool), n[i]? = some x → (spr d n)[i]? = some (!x && (d[(n.take i).count false]?).getD false)
  | _, [], i, x, h => by simp at h
  | d, true :: ns, 0, x, h => by simp at h; subst h; simp [spr]
  | d, false :: ns, 0, x, h => by
    simp at h; subst h
    cases d <;> simp [spr]
  | d, true :: ns, i + 1, x, h => by
    have := spr_get d ns i x (by simpa using h)
    simpa [spr] using this
  | d, false :: ns, i + 1, x, h => by
    have := spr_get d.tail ns i x (by simpa using h)
    simp only [spr, List.getElem?_cons_succ, List.take_succ_cons, List.count_cons_self, this]
    cases d <;> simp
theorem count_tf : ∀ n : List Bool, n.count true + n.count false = n.length
  | [] => rfl
  | true :: n => by have := count_tf n; simp; omega
  | false :: n => by have := count_tf n; simp; omega
theorem spr_none : ∀ (d n : List Bool), n.count true = 0 → d.length = n.length → spr d n = d
  | [], [], _, _ => rfl
  | x :: d, [], _, h => by simp at h
  | [], y :: n, _, h => by simp at h
  | x :: d, true :: n, h, _ => by simp at h
  | x :: d, false :: n, h, h2 => by
    simp only [spr, List.headD_cons, List.tail_cons]
    rw [spr_none d n (by simpa using h) (by simpa using h2)]
theorem count_step {n : List Bool} {i : Nat} {x : Bool} (h : n[i]? = some x) : (n.take (i + 1)).count false = (n.take i).count false + if x then 0 else 1 := by
  rw [List.take_add_one, h, List.count_append]
  cases x <;> simp
theorem count_lt {n : List Bool} {i : Nat} (h : n[i]? = some false) : (n.take i).count false < n.count false := by
  have h1 := count_step h
  have h2 : (n.take (i + 1)).count false ≤ n.count false := (List.take_sublist _ _).count_le _
  simp at h1; omega
theorem count_lim (n : List Bool) (i : Nat) : (n.take i).count false ≤ n.length := Nat.le_trans List.count_le_length (by rw [List.length_take]; omega)

theorem spreadOk (d n : List Bool) (hd : d.length ≤ 16777216) (hn : n.length ≤ 16777216) (h : d.length = n.count false) :
    FnC Tryz.prog 8 [setP d, setP n] (· = .tup [setP (spr d n), .int .i64 0]) := by
  have ct := count_tf n
  have h1 : (((d.length : Nat) : Int) != IntKind.i64.wrap (((n.length : Nat) : Int) - ((n.count true : Nat) : Int))) = false := by
    rw [IntKind.wrap_i64]; simp; omega
  have hsl := spr_length d n
  have hp : ∀ x ∈ [setP d, setP n], Blw 0 x := by intro x hx; simp at hx; rcases hx with rfl | rfl <;> exact setP_blw _
  have hpr : Blw 0 (.tup [setP (spr d n), .int .i64 0]) := by rw [blw_tup]; intro x hx; simp at hx; rcases hx with rfl | rfl; exact setP_blw _; simp
  refine FnC.mk Tryz.func8 rfl rfl (Nat.le_of_ble_eq_true rfl) hp (by rintro _ rfl; exact hpr) ?_
  refine joinK.direct ?_
  refine guardK.split ?_
  refine ⟨fun _ => ?_, fun h => absurd h (by decide)⟩
  refine ⟨fun h => absurd h (by decide), fun _ => join_go ?_⟩
  refine joinK.direct ?_
  refine callK.eq (lenC d) ?_
  refine callK.eq (lenC n) ?_
  refine callK.eq (countC n hn) ?_
  refine ⟨fun h => absurd (h1.symm.trans h) (by decide), fun _ => join_go ?_⟩
  refine joinK.direct ?_
  refine callK.eq (countC n hn) ?_
  refine ⟨fun h0 => ?_, fun h0 => join_go ?_⟩
  · have h0 : (((n.count true : Nat) : Int) == 0) = true := h0
    rw [beq_iff_eq] at h0
    have he := spr_none d n (by omega) (by omega)
    have het : DV.tup [setP d, .int .i64 0] = .tup [setP (spr d n), .int .i64 0] := by rw [he]
    refine callK.eq (cloneSet d hd) ?_
    exact .inl het
  · have cn := newS n.length hn
    have hs0 : setO (List.replicate n.length false) = setO (upto (spr d n) 0) := by rw [upto_zero, hsl]
    refine callK.eq (lenC n) ?_
    refine callK.id cn ?_
    refine joinK.use [6] (fun _ : Unit => [.pobj 1 0 0]) (fun _ => setO (spr d n)) (fun _ => True) ?_ ?_
    · refine callK.eq (lenC n) ?_
      refine loopK.use [0, 1, 6, 7, 32, 33] (fun i : Nat => [setP d, setP n, .pobj 1 0 0, .int .i64 ((n.take i).count false : Nat), .int .i64 (n.length : Nat), .int .i64 i]) (fun i => setO (upto (spr d n) i)) (fun i => i ≤ n.length) (fun i => n.length - i) 0 (Nat.zero_le _)
        ⟨rfl, rfl, rfl, rfl, rfl, rfl, trivial⟩ (.inl hs0) ?_
      intro i hi
      by_cases hil : i < n.length
      · have hdc : decide ((i : Int) < (n.length : Nat)) = true := decide_eq_true (by omega)
        have hg0 := List.getElem?_eq_getElem hil
        have cg := getC n i hn
        rw [hg0] at cg
        have hsg := spr_get d n i _ hg0
        have hst := upto_step hsg
        have hat := upto_at (b := spr d n) (i := i) (by omega)
        have hul := upto_length (spr d n) i (by omega)
        have hcs := count_step hg0
        have hlt := count_lt (n := n) (i := i)
        have hcl := count_lim n (i + 1)
        rw [hg0] at hlt
        generalize n[i] = x at *
        have hw1 : IntKind.i64.wrap ((i : Int) + 1) = ((i + 1 : Nat) : Int) := by rw [IntKind.wrap_i64]; omega
        have f1 : i + 1 ≤ n.length := by omega
        have f2 : n.length - (i + 1) < n.length - i := by omega
        refine joinK.direct ?_
        refine ⟨fun _ => join_go ?_, fun h => absurd (hdc.symm.trans h) (by decide)⟩
        refine joinK.direct ?_
        refine joinK.direct ?_
        refine callK.eq cg ?_
        refine ⟨fun hx => ?_, fun hx => join_go ?_⟩
        · have hx : x = true := hx
          subst hx
          have hk : (n.take (i + 1)).count false = (n.take i).count false := by rw [hcs]; rfl
          rw [show (!true && (d[(n.take i).count false]?).getD false) = false from rfl, set_self hat] at hst
          have hfin : setO (upto (spr d n) i) = setO (upto (spr d n) (i + 1)) := by rw [← hst]
          refine join_go ?_
          exact loop_next (i + 1) f1 f2 ⟨rfl, rfl, rfl, int_eq (by rw [hk]), rfl, int_eq hw1, trivial⟩ (.inl hfin)
        · have hx : x = false := hx
          subst hx
          have hk : (n.take (i + 1)).count false = (n.take i).count false + 1 := by rw [hcs]; rfl
          have hkd : (n.take i).count false < d.length := by have := hlt rfl; omega
          have hw2 : IntKind.i64.wrap (((n.take i).count false : Nat) + 1 : Int) = ((n.take (i + 1)).count false : Nat) := by rw [IntKind.wrap_i64]; omega
          have hdg := List.getElem?_eq_getElem hkd
          have cd := getC d ((n.take i).count false) hd
          rw [hdg] at cd
          rw [hdg] at hst
          generalize d[(n.take i).count false] = y at *
          refine joinK.direct ?_
          refine callK.eq cd ?_
          refine ⟨fun hy => ?_, fun hy => join_go ?_⟩
          · have hy : y = true := hy
            subst hy
            have cp := putS (upto (spr d n) i) i (by omega) (by omega)
            have hfin : setO ((upto (spr d n) i).set i true) = setO (upto (spr d n) (i + 1)) := by rw [← hst]; rfl
            refine callK.id cp ?_
            refine join_go ?_
            refine join_go ?_
            exact loop_next (i + 1) f1 f2 ⟨rfl, rfl, rfl, int_eq hw2, rfl, int_eq hw1, trivial⟩ (.inl hfin)
          · have hy : y = false := hy
            subst hy
            have hst' : (upto (spr d n) i).set i false = upto (spr d n) (i + 1) := hst
            rw [set_self hat] at hst'
            have hfin : setO (upto (spr d n) i) = setO (upto (spr d n) (i + 1)) := by rw [← hst']
            refine join_go ?_
            exact loop_next (i + 1) f1 f2 ⟨rfl, rfl, rfl, int_eq hw2, rfl, int_eq hw1, trivial⟩ (.inl hfin)
      · have hdc : decide ((i : Int) < (n.length : Nat)) = false := decide_eq_false (by omega)
        have e : i = n.length := by omega
        subst e
        have hfin : setO (upto (spr d n) n.length) = setO (spr d n) := by rw [← hsl, upto_all]
        refine joinK.direct ?_
        refine ⟨fun h => absurd (hdc.symm.trans h) (by decide), fun _ => ?_⟩
        exact join_at () trivial ⟨rfl, trivial⟩ (.inl hfin)
    rintro ⟨⟩ -
    exact .inr ⟨.tup [setP (spr d n), .int .i64 0], snap_tup (show Snaps (obj (setO (spr d n))) [.pobj 1 0 0, .int .i64 0] [setP (spr d n), .int .i64 0] from ⟨setO_snap _, .pure _ (by simp), trivial⟩), rfl⟩
theorem spreadNo (d n : List Bool) (hd : d.length ≤ 16777216) (hn : n.length ≤ 16777216) (h : d.length ≠ n.count false) :
    FnC Tryz.prog 8 [setP d, setP n] (· = .tup [.nilp, .int .i64 11]) := by
  have ct := count_tf n
  have h1 : (((d.length : Nat) : Int) != IntKind.i64.wrap (((n.length : Nat) : Int) - ((n.count true : Nat) : Int))) = true := by
    rw [IntKind.wrap_i64]; simp; omega
  have hp : ∀ x ∈ [setP d, setP n], Blw 0 x := by intro x hx; simp at hx; rcases hx with rfl | rfl <;> exact setP_blw _
  refine FnC.mk Tryz.func8 rfl rfl (Nat.le_of_ble_eq_true rfl) hp (by rintro _ rfl; simp) ?_
  refine joinK.direct ?_
  refine guardK.split ?_
  refine ⟨fun _ => ?_, fun h => absurd h (by decide)⟩
  refine ⟨fun h => absurd h (by decide), fun _ => join_go ?_⟩
  refine joinK.direct ?_
  refine callK.eq (lenC d) ?_
  refine callK.eq (lenC n) ?_
  refine callK.eq (countC n hn) ?_
  refine ⟨fun _ => ?_, fun h => absurd (h1.symm.trans h) (by decide)⟩
  exact .inl rfl
theorem spreadNilL (x : DV) (hx : Blw 0 x) : FnC Tryz.prog 8 [.nilp, x] (· = .tup [.nilp, .int .i64 1]) := by
  refine FnC.mk Tryz.func8 rfl rfl (Nat.le_of_ble_eq_true rfl) (by intro d hd; simp at hd; rcases hd with rfl | rfl; simp; exact hx) (by rintro _ rfl; simp) ?_
  refine joinK.direct ?_
  refine guardK.split ?_
  refine ⟨fun h => absurd h (by decide), fun _ => ?_⟩
  refine ⟨fun _ => ?_, fun h => absurd h (by decide)⟩
  exact .inl rfl
theorem spreadNilR (l : List Bool) : FnC Tryz.prog 8 [setP l, .nilp] (· = .tup [.nilp, .int .i64 1]) := by
  refine FnC.mk Tryz.func8 rfl rfl (Nat.le_of_ble_eq_true rfl) (by intro d hd; simp at hd; rcases hd with rfl | rfl; exact setP_blw l; simp) (by rintro _ rfl; simp) ?_
  refine joinK.direct ?_
  refine guardK.split ?_
  refine ⟨fun _ => ?_, fun h => absurd h (by decide)⟩
  refine ⟨fun _ => ?_, fun h => absurd h (by decide)⟩
  exact .inl rfl
end Go.Proofs.YthbjeeipeadilaaGreat
