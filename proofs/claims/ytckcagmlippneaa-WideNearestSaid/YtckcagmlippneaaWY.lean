/- Wide's reference: Read; the laws WideTexts, WideReads. -/
import Derived.Test.YtckcagmlippneaaWX
namespace Go.Proofs.Ytckcagmlippneaa
open Go Go.Pv Go.RowKit
set_option linter.unusedSimpArgs false
set_option linter.unusedVariables false
set_option maxRecDepth 10000
set_option exponentiation.threshold 1000

noncomputable def readN (l : List UInt8) : DV :=
  match readX l with
  | some x => .tup [numD x, .bool true]
  | none => .tup [numD 0, .bool false]
theorem readN_none {l : List UInt8} (h : readX l = none) : readN l = .tup [numD 0, .bool false] := by unfold readN; rw [h]
theorem readN_some {l : List UInt8} {x : Int} (h : readX l = some x) : readN l = .tup [numD x, .bool true] := by unfold readN; rw [h]
theorem blw_readN (l : List UInt8) : Blw 0 (readN l) := by
  unfold readN
  split
  · rw [blw_tup]; intro d hd; simp at hd; rcases hd with rfl | rfl
    · exact blw_numD _
    · simp
  · rw [blw_tup]; intro d hd; simp at hd; rcases hd with rfl | rfl
    · exact blw_numD _
    · simp
theorem readX_iff {l : List UInt8} (h : in128 (valS l)) (h2 : textL (valS l) = l) : readX l = some (valS l) := by unfold readX; rw [if_pos ⟨h, h2⟩]
theorem readX_not {l : List UInt8} (h : ¬ (in128 (valS l) ∧ textL (valS l) = l)) : readX l = none := by unfold readX; rw [if_neg h]
theorem readX_long {l : List UInt8} (h : 41 < l.length) : readX l = none := by
  refine readX_none fun x hx e => ?_
  have h1 := dec_len (n := x.natAbs) (by have := hx.1; have := hx.2; omega)
  rw [← e] at h
  unfold textL at h
  rw [List.length_append] at h
  split at h <;> simp at h <;> omega
theorem valL_lt (l : List UInt8) (h : ∀ b ∈ l, isDig b = true) : valL l < 10 ^ l.length := by
  have key : ∀ (l : List UInt8) (a : Nat), (∀ b ∈ l, isDig b = true) → l.foldl (fun a b => a * 10 + (b.toNat - 48)) a + 1 ≤ (a + 1) * 10 ^ l.length := by
    intro l
    induction l with
    | nil => intro a _; simp
    | cons b l ih =>
      intro a h
      have h1 := ih (a * 10 + (b.toNat - 48)) fun c hc => h c (List.mem_cons_of_mem _ hc)
      have h2 := h b (List.mem_cons_self ..)
      unfold isDig at h2
      simp at h2
      have h3 : (a * 10 + (b.toNat - 48) + 1) * 10 ^ l.length ≤ (a + 1) * 10 * 10 ^ l.length := Nat.mul_le_mul_right _ (by omega)
      simp only [List.foldl_cons, List.length_cons]
      rw [Nat.pow_succ, Nat.mul_comm (10 ^ l.length) 10, ← Nat.mul_assoc]
      omega
  have := key l 0 h
  unfold valL
  omega
theorem valL_41 {l : List UInt8} {k : Nat} (h : ∀ b ∈ l.take k, isDig b = true) (hk : k ≤ 41) : valL (l.take k) < 10 ^ 41 := by
  have h1 := valL_lt (l.take k) h
  have h2 : (l.take k).length ≤ 41 := by rw [List.length_take]; omega
  have h3 : 10 ^ (l.take k).length ≤ 10 ^ 41 := Nat.pow_le_pow_right (by decide) h2
  omega
def fromOf (l : List UInt8) : Nat := bif isNeg l then 1 else 0
theorem digs_get (l : List UInt8) (k : Nat) : l[fromOf l + k]? = (digsOf l)[k]? := by
  unfold fromOf digsOf
  cases isNeg l with
  | true => simp [List.getElem?_drop, Nat.add_comm]
  | false => simp
theorem digs_len (l : List UInt8) : l.length = fromOf l + (digsOf l).length := by
  unfold fromOf digsOf
  cases h : isNeg l with
  | true =>
    have : 0 < l.length := by
      cases l with
      | nil => simp [isNeg] at h
      | cons => simp
    simp; omega
  | false => simp
theorem num0_eq : numD 0 = .agg [.list (digL 0), .bool false] := rfl

theorem readR (l : List UInt8) (hl : l.length ≤ reachBytes) : FnC Try.prog 33 [.str (bsA l)] (· = readN l) := by
  refine FnC.mk Try.func33 rfl rfl (Nat.le_of_ble_eq_true rfl) (by simp) (by rintro _ rfl; exact blw_readN _) ?_
  have hll : l.length < 140737488355328 := by unfold reachBytes at hl; omega
  have hfl : fromOf l ≤ 1 := by unfold fromOf; cases isNeg l <;> decide
  have hdl := digs_len l
  have hdg := digs_get l
  have hbad := fun i b => readX_bad (l := l) (i := i) (b := b)
  have hv : valS l = bif isNeg l then 0 - (valL (digsOf l) : Int) else (valL (digsOf l) : Int) := rfl
  have hfn : fromOf l = bif isNeg l then 1 else 0 := rfl
  obtain ⟨fr, efr⟩ : ∃ fr, fr = fromOf l := ⟨_, rfl⟩
  obtain ⟨ds, eds⟩ : ∃ ds, ds = digsOf l := ⟨_, rfl⟩
  rw [← efr] at hfl hdl hfn
  rw [← eds] at hdl hv
  have hdg' : ∀ k, l[fr + k]? = ds[k]? := fun k => by rw [efr, eds]; exact hdg k
  have hbad' : ∀ i b, ds[i]? = some b → isDig b = false ∨ 40 < i → readX l = none := fun i b h => hbad i b (eds ▸ h)
  clear hdg hbad
  refine callK.eq zeroC ?_
  refine joinK.use [0, 2, 4, 5] (fun _ : Unit => [.str (bsA l), .pobj 0 0 0, .pobj 1 0 0, .int .i64 fr]) (fun _ => [numPO num0, numPO (numC 0)]) (fun _ => True) ?_ ?_
  · refine guardK.split ?_
    refine ⟨fun h => ?_, fun h => ?_⟩
    · have h : decide (((bsA l).size : Int) > 0) = true := h
      have h := of_decide_eq_true h
      rw [bsA_size] at h
      have hg : (bsA l)[(0 : Int).toNat]? = some (l[0]'(by omega)) := by rw [bsA_get]; exact List.getElem?_eq_getElem (by omega)
      have hneg : (((l[0]'(by omega)).toNat : Int) == 45) = isNeg l := by
        cases l with
        | nil => simp at h
        | cons b l' =>
          show ((b.toNat : Int) == 45) = (b == 45)
          rw [Bool.eq_iff_iff]; simp
          constructor
          · intro h; exact UInt8.toNat_inj.1 (by show b.toNat = 45; omega)
          · rintro rfl; rfl
      refine ⟨by decide, optK.mk hg ?_⟩
      refine ⟨fun h2 => ?_, fun h2 => ?_⟩
      · have h2 : isNeg l = true := hneg.symm.trans h2
        exact join_at () trivial ⟨rfl, rfl, rfl, int_eq (by rw [hfn, h2]; rfl), trivial⟩ (.inl rfl)
      · have h2 : isNeg l = false := hneg.symm.trans h2
        exact join_at () trivial ⟨rfl, rfl, rfl, int_eq (by rw [hfn, h2]; rfl), trivial⟩ (.inl rfl)
    · have h : decide (((bsA l).size : Int) > 0) = false := h
      have h := of_decide_eq_false h
      rw [bsA_size] at h
      have hn : isNeg l = false := by
        cases l with
        | nil => rfl
        | cons b l' => simp at h
      refine ⟨fun h2 => (by cases h2), fun _ => ?_⟩
      exact join_at () trivial ⟨rfl, rfl, rfl, int_eq (by rw [hfn, hn]; rfl), trivial⟩ (.inl rfl)
  rintro ⟨⟩ -
  refine joinK.direct ⟨fun h => ?_, fun h => join_go ?_⟩
  · have h : decide (((bsA l).size : Int) > 41) = true := h
    have h := of_decide_eq_true h
    rw [bsA_size] at h
    refine fin_eq (.tup [.agg [.list _, .bool _], .bool _]) rfl ?_
    rw [readN_none (readX_long (by omega))]; rfl
  have h : decide (((bsA l).size : Int) > 41) = false := h
  have h41 : l.length ≤ 41 := by
    have := of_decide_eq_false h
    rw [bsA_size] at this; omega
  refine joinK.use [0, 2, 4, 5] (fun _ : Unit => [.str (bsA l), .pobj 0 0 0, .pobj 1 0 0, .int .i64 fr]) (fun _ => [numPO num0, numPO (numC (valL ds))]) (fun _ => ∀ b ∈ ds, isDig b = true) ?_ ?_
  · refine loopK.use [0, 2, 4, 5, 6] (fun k : Nat => [.str (bsA l), .pobj 0 0 0, .pobj 1 0 0, .int .i64 fr, .int .i64 (fr + k : Nat)]) (fun k => [numPO num0, numPO (numC (valL (ds.take k)))])
      (fun k => k ≤ ds.length ∧ ∀ b ∈ ds.take k, isDig b = true) (fun k => ds.length - k) 0 ⟨Nat.zero_le _, by simp⟩ ⟨rfl, rfl, rfl, rfl, rfl, trivial⟩ (.inl rfl) ?_
    rintro k ⟨hk, hd⟩
    refine joinK.direct ⟨fun h2 => join_go ?_, fun h2 => ?_⟩
    · have h2 : decide (((fr + k : Nat) : Int) < ((bsA l).size : Int)) = true := h2
      have h2 : k < ds.length := by
        have := of_decide_eq_true h2
        rw [bsA_size] at this; omega
      have hz := List.getElem?_eq_getElem h2
      have hg : (bsA l)[((fr + k : Nat) : Int).toNat]? = some ds[k] := by rw [bsA_get, Int.toNat_natCast, hdg' k]; exact hz
      have h0 : (0 : Int) ≤ ((fr + k : Nat) : Int) := Int.natCast_nonneg _
      have ht : (bif decide (((ds[k]).toNat : Int) < 48) then true else decide (((ds[k]).toNat : Int) > 57)) = !isDig ds[k] := by
        unfold isDig
        rw [Bool.eq_iff_iff, Bool.cond_true_left]; simp; omega
      refine joinK.direct ?_
      refine joinK.direct ?_
      refine guardK.spec ?_
      refine ⟨h0, optK.mk hg ⟨h0, optK.mk hg ?_⟩⟩
      refine ⟨fun h3 => ?_, fun h3 => join_go ?_⟩
      · have h3 : (!isDig ds[k]) = true := ht.symm.trans h3
        refine callK.eq zeroC ?_
        refine fin_eq (.tup [.agg [.list _, .bool _], .bool _]) rfl ?_
        rw [readN_none (hbad' k _ hz (.inl (by simpa using h3)))]; rfl
      · have h3 : (!isDig ds[k]) = false := ht.symm.trans h3
        have h3 : isDig ds[k] = true := by simpa using h3
        have h3' := h3
        unfold isDig at h3'
        simp at h3'
        have hvl := valL_41 hd (by omega)
        have esub : IntKind.u64.wrap (IntKind.u8.wrap (((ds[k]).toNat : Int) - 48)) = (((ds[k]).toNat - 48 : Nat) : Int) := by rw [IntKind.wrap_u8, IntKind.wrap_u64]; omega
        have cs := small ((ds[k]).toNat - 48) (by omega)
        rw [← esub] at cs
        refine drawK.mk (by kernel_rfl) ?_
        refine callE.mk (timesN (valL (ds.take k)) 10 (by omega) (by decide)) ?_
        refine ⟨h0, optK.mk hg ?_⟩
        refine callE.mk cs ?_
        refine callE.mk (plusN _ _ (by omega) (by rw [esub]; omega)) ?_
        refine join_go (loop_next (k + 1) ⟨by omega, ?_⟩ (by omega) ⟨rfl, rfl, rfl, rfl, int_eq ?_, trivial⟩ (.inl ?_))
        · intro b hb
          rw [take_snoc' ds k _ hz] at hb
          rcases List.mem_append.1 hb with hb | hb
          · exact hd b hb
          · simp at hb; subst hb; exact h3
        · rw [IntKind.wrap_i64]; omega
        · refine congrArg (fun z => [numPO num0, numPO (numC z)]) ?_
          rw [take_snoc' ds k _ hz, valL_snoc, esub]; omega
    · have h2 : decide (((fr + k : Nat) : Int) < ((bsA l).size : Int)) = false := h2
      have h2 : k = ds.length := by
        have := of_decide_eq_false h2
        rw [bsA_size] at this; omega
      subst h2
      have et := List.take_length (l := ds)
      refine join_at () (by rw [et] at hd; exact hd) ⟨rfl, rfl, rfl, rfl, trivial⟩ (.inl ?_)
      exact congrArg (fun z : List UInt8 => [numPO num0, numPO (numC (valL z))]) et
  rintro ⟨⟩ hd
  have hvl : valL ds < 10 ^ 41 := by
    have := valL_41 (l := ds) (k := ds.length) (by rw [List.take_length]; exact hd) (by omega)
    rwa [List.take_length] at this
  have hvs : (valS l).natAbs < 10 ^ 41 := by rw [hv]; cases isNeg l <;> simp <;> omega
  refine joinK.use [0, 2, 4] (fun _ : Unit => [.str (bsA l), .pobj 0 0 0, .pobj 1 0 0]) (fun _ => [numPO num0, numPO (numC (valS l))]) (fun _ => True) ?_ ?_
  · refine ⟨fun h2 => ?_, fun h2 => ?_⟩
    · have h2 : ((fr : Int) == 1) = true := h2
      have h2 := beq_iff_eq.1 h2
      have hn : isNeg l = true := by
        cases hn : isNeg l with
        | true => rfl
        | false => rw [hn] at hfn; simp at hfn; omega
      refine callK.eq (turnedN (valL ds) (by omega)) ?_
      refine join_at () trivial ⟨rfl, rfl, rfl, trivial⟩ (.inl ?_)
      refine congrArg (fun z => [numPO num0, numPO (numC z)]) ?_
      rw [hv, hn, cond_true]; omega
    · have h2 : ((fr : Int) == 1) = false := h2
      have h2 := beq_eq_false_iff_ne.1 h2
      have hn : isNeg l = false := by
        cases hn : isNeg l with
        | false => rfl
        | true => rw [hn] at hfn; simp at hfn; omega
      refine join_at () trivial ⟨rfl, rfl, rfl, trivial⟩ (.inl ?_)
      refine congrArg (fun z => [numPO num0, numPO (numC z)]) ?_
      rw [hv, hn, cond_false]
  rintro ⟨⟩ -
  have htx : (!((bsA (textL (valS l))).toList == (bsA l).toList)) = decide (textL (valS l) ≠ l) := by rw [str_cmp]; simp
  refine joinK.direct ?_
  refine drawK.mk (by kernel_rfl) ?_
  refine callE.mk (textN (valS l) (by omega)) ?_
  refine ⟨fun h2 => ?_, fun h2 => ?_⟩
  · have h2 := of_decide_eq_false (htx.symm.trans h2)
    have h2 : textL (valS l) = l := Decidable.not_not.1 h2
    refine callE.mk (power 127 (by decide)) ?_
    refine callE.mk (turnedN (2 ^ 127) (by decide)) ?_
    refine callE.mk (belowN (valS l) (-(2 ^ 127)) (by omega) (by decide)) ?_
    refine ⟨fun h3 => ?_, fun h3 => ?_⟩
    · have h3 : ¬ valS l < -(2 ^ 127) := of_decide_eq_false h3
      refine callE.mk (power 127 (by decide)) ?_
      refine callE.mk (belowN (valS l) (2 ^ 127) (by omega) (by decide)) ?_
      refine ⟨fun h4 => ?_, fun h4 => join_go ?_⟩
      · have h4 : (!decide (valS l < 2 ^ 127)) = true := h4
        have h4 : ¬ valS l < 2 ^ 127 := by simpa using h4
        refine callK.eq zeroC ?_
        refine fin_eq (.tup [.agg [.list _, .bool _], .bool _]) rfl ?_
        rw [readN_none (readX_not (fun e => by have := e.1.2; omega))]; rfl
      · have h4 : (!decide (valS l < 2 ^ 127)) = false := h4
        have h4 : valS l < 2 ^ 127 := by simpa using h4
        refine fin_eq (.tup [.agg [.list _, .bool _], .bool _]) rfl ?_
        rw [readN_some (readX_iff ⟨by omega, by omega⟩ h2)]; rfl
    · have h3 : valS l < -(2 ^ 127) := of_decide_eq_true h3
      refine ⟨fun _ => ?_, fun h4 => (by cases h4)⟩
      refine callK.eq zeroC ?_
      refine fin_eq (.tup [.agg [.list _, .bool _], .bool _]) rfl ?_
      rw [readN_none (readX_not (fun e => by have := e.1.1; omega))]; rfl
  · have h2 := of_decide_eq_true (htx.symm.trans h2)
    refine ⟨fun _ => ?_, fun h4 => (by cases h4)⟩
    refine callK.eq zeroC ?_
    refine fin_eq (.tup [.agg [.list _, .bool _], .bool _]) rfl ?_
    rw [readN_none (readX_not (fun e => h2 e.2))]; rfl

theorem lawReads (l : List UInt8) (hl : l.length ≤ reachBytes) : FnC Try.prog 8 [.str (bsA l)] (· = .bool true) := by
  have c1 := readR l hl
  have c2 := readW l
  cases hr : readX l with
  | some x =>
    have hx := readX_some hr
    rw [readN_some hr] at c1
    rw [readD_some hr] at c2
    refine FnC.mk Try.func8 rfl rfl (Nat.le_of_ble_eq_true rfl) (by simp) (by rintro _ rfl; simp) ?_
    refine callK.eq c1 ?_
    refine callK.eq c2 ?_
    refine drawK.mk (by kernel_rfl) ?_
    refine ⟨fun _ => ?_, fun h => (by cases h)⟩
    refine callE.mk (ofL x (by have := hx.1.1; have := hx.1.2; omega)) ?_
    refine ⟨EqOk.mk (by kernel_rfl), ⟨fun _ => ?_, fun h => absurd h (by simp)⟩⟩
    refine callE.mk known ?_
    exact fin_eq (.bool _) rfl rfl
  | none =>
    rw [readN_none hr] at c1
    rw [readD_none hr] at c2
    refine FnC.mk Try.func8 rfl rfl (Nat.le_of_ble_eq_true rfl) (by simp) (by rintro _ rfl; simp) ?_
    refine callK.eq c1 ?_
    refine callK.eq c2 ?_
    refine drawK.mk (by kernel_rfl) ?_
    refine ⟨fun _ => ?_, fun h => (by cases h)⟩
    refine callE.mk (ofL 0 (by decide)) ?_
    refine ⟨EqOk.mk (by kernel_rfl), ⟨fun _ => ?_, fun h => absurd h (by simp)⟩⟩
    refine callE.mk known ?_
    exact fin_eq (.bool _) rfl rfl

theorem lawTexts (x : Int) (hx : in128 x) : FnC Try.prog 7 [wideD x] (· = .bool true) := by
  refine FnC.mk Try.func7 rfl rfl (Nat.le_of_ble_eq_true rfl) blw_wide1 (by rintro _ rfl; simp) ?_
  refine callK.eq (numL x hx) ?_
  refine callK.eq (textN x (by have := hx.1; have := hx.2; omega)) ?_
  have hs : ((bsA (textL x)).toList == (bsA (textL x)).toList) = true := by rw [str_cmp]; simp
  refine guardK.split ?_
  refine callK.eq (textW x hx) ?_
  refine ⟨fun _ => ?_, fun h => absurd (hs.symm.trans h) (by decide)⟩
  refine callK.eq known ?_
  exact fin_eq (.bool _) rfl rfl
end Go.Proofs.Ytckcagmlippneaa
