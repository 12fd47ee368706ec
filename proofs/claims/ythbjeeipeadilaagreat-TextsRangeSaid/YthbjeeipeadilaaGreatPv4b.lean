/- The walk over pure values is sound: every operation, regions, bodies. -/
import Derived.Lib.ConvBytes
import Derived.Laws.AppendOwn
import Derived.Test.YthbjeeipeadilaaGreatPv4m
import Derived.Laws.StructEq
import Derived.Laws.BytesArg
set_option linter.unusedSimpArgs false
set_option linter.unusedVariables false
namespace Go.Pv
open Go Go.RowKit
variable {P : Program} {C : Ctx} {n : Nat} {h : Hp} {β : Nat → Bl} {w : World} {a : Act}

theorem bif_true {b : Bool} {p : Prop} (h : bif b then p else False) : b = true ∧ p := by
  cases b with
  | false => exact h.elim
  | true => exact ⟨rfl, h⟩
theorem lowK_some {env : Env} (he : ∀ t, Rep h β (a.tmps.getD t undef) (env t)) {lo : Option Operand} {K : Int → Prop} (hk : lowK (lo.map (ev env)) K) : ∃ zl : Int, ((lo = none ∧ zl = 0) ∨ ∃ k y, lo = some y ∧ a.eval y = .int k zl) ∧ K zl := by
  unfold lowK at hk
  cases lo with
  | none => exact ⟨0, .inl ⟨rfl, rfl⟩, hk⟩
  | some y =>
    have hk : isInt (ev env y) K := hk
    obtain ⟨k, z, ez, hk⟩ := isInt_some hk
    have rY := rep_ev he y
    rw [ez] at rY
    exact ⟨z, .inr ⟨k, y, rfl, rep_toV rfl rY⟩, hk⟩
theorem callE_K {f : FuncId} {ds : List DV} {σ : Objs} {K : DV → Objs → Prop} (hk : callE P f ds σ (fun d => K d σ)) : callK P f ds σ K := by
  unfold callE at hk
  unfold callK
  obtain ⟨F, ds', r, hs, hf, hF, hk⟩ := hk
  refine .inl ⟨F, ds', hs, .inl ⟨_, hf, fun d e => ?_⟩⟩
  subst e
  rcases hF with rfl | hsca
  · exact .inr hk
  · exact .inl ⟨hsca, hk⟩

theorem callD_sound {det : Det} {o : Oper} {f : FuncId} {vs : Array Value} {ds : List DV} (hci : CallIs P a o f vs) {σ : Objs} {K : DV → Objs → Prop}
    (hk : callD P det o.dst f ds σ K) (hi : Inv C σ h β w) (he : RepVs h β vs ds) {next : Act → World → Prop} {Q : Exit → Act → World → Prop}
    (hnext : VNext C h β a o K next) : o.wp P a w next Q := by
  unfold callD at hk
  split at hk
  · exact call_sound hci hk hi he hnext
  · split at hk
    · exact call_sound hci (callE_K hk) hi he hnext
    · exact callM_sound hci hk hi he hnext
    · unfold callG at hk
      obtain ⟨d2, xs, hall, hk⟩ := hk
      exact call_sound hci (hall _ hk) hi he hnext
    · unfold callW at hk
      obtain ⟨d2, σ2, hall, hk⟩ := hk
      exact call_sound hci (hall _ hk) hi he hnext
theorem two_args {l : List Operand} {e : Env} {d d' : DV} (h : l.map (ev e) = [d, d']) : ∃ x y, l = [x, y] ∧ ev e x = d ∧ ev e y = d' := by
  match l, h with
  | [x, y], h => simp at h; exact ⟨x, y, rfl, h.1, h.2⟩

theorem partD_sound {t : TypeId} {ds : List DV} {j : Nat} {x : DV} (hk : partD P t ds j = some x) (cs : Array Value) (hl : cs.size = ds.length)
    (hc : ∀ (i : Nat) (v : Value) (d : DV), cs[i]? = some v → ds[i]? = some d → Rep h β v d) (w : World) : ∃ v, (part t cs j).run P w = .ok v w ∧ Rep h β v x := by
  have hk' : ldK P t ds j (· = x) := by
    unfold partD at hk
    unfold ldK
    split at hk
    · rename_i n hs
      cases hb : Nat.ble (j + n) ds.length with
      | true => rw [hb] at hk; injection hk with hk; first | (rw [hs]; simp only [hb, cond_true]; exact hk) | (simp only [cond_true]; exact hk) | skip
      | false => rw [hb] at hk; cases hk
    · rename_i hs
      rw [hk]; rfl
    · cases hk
  obtain ⟨v, d, h1, h2, h3⟩ := part_sound (w := w) hk' cs hl hc
  subst h3
  exact ⟨v, h1, h2⟩

theorem eqD_sound : ∀ (m : Nat) (t : TypeId) (x y : DV) (r : Bool), eqD P m t x y = some r → eqOkB P m t = true → ∀ (d : Nat), m ≤ d → ∀ (u v : Value) (w : World), Rep h β u x → Rep h β v y → (Op.equalIn d t u v).run P w = .ok r w
  | 0, _, _, _, _, he, _, _, _, _, _, _, _, _ => by cases he
  | m + 1, t, x, y, r, he, hok, d, hd, u, v, w, hu, hv => by
    obtain ⟨d, rfl⟩ : ∃ d', d = d' + 1 := ⟨d - 1, by omega⟩
    unfold eqD at he
    unfold eqOkB at hok
    split at he
    · rename_i a b ht
      injection he with he; subst he
      rw [show u = .bool a from rep_toV rfl hu, show v = .bool b from rep_toV rfl hv]
      exact run_equalIn_bool w d t a b ht
    · rename_i k0 k a k' b ht
      cases hkk : decide (k = k') with
      | false => rw [hkk] at he; cases he
      | true =>
        rw [hkk] at he
        have := of_decide_eq_true hkk
        subst this
        injection he with he; subst he
        rw [show u = .int k a from rep_toV rfl hu, show v = .int k b from rep_toV rfl hv]
        exact run_equalIn_int w d t k k0 a b ht
    · rename_i k0 k a k' b ht
      cases hkk : decide (k = k') with
      | false => rw [hkk] at he; cases he
      | true =>
        rw [hkk] at he
        have := of_decide_eq_true hkk
        subst this
        injection he with he; subst he
        rw [show u = .float k a from rep_toV rfl hu, show v = .float k b from rep_toV rfl hv]
        simp [Op.equalIn, run_underlying ht]
    · rename_i a b ht
      injection he with he; subst he
      rw [show u = .string a from rep_toV rfl hu, show v = .string b from rep_toV rfl hv]
      simp [Op.equalIn, run_underlying ht]
    · rename_i fs xs ys ht
      rw [ht] at hok
      simp only [Bool.and_eq_true, Bool.not_eq_true'] at hok
      cases hu with
      | agg cs _ hl hr =>
      cases hv with
      | agg cs' _ hl' hr' =>
      have hf : P.fieldsOf t = fs := by simp [Program.fieldsOf, ht]
      rw [run_equalIn_struct w d t cs cs' (by rw [hf]; exact ht) hok.1, hf]
      have go : ∀ (l : List Field) (r : Bool), eqFs P (eqD P m) xs ys l = some r → (l.all fun f => f.name != "_" && eqOkB P m f.type) = true → (Op.eqFields d cs cs' l).run P w = .ok r w := by
        intro l
        induction l with
        | nil => intro r e _; simp only [eqFs] at e; injection e with e; subst e; rfl
        | cons f l ih =>
          intro r e ha
          simp only [List.all_cons, Bool.and_eq_true, bne_iff_ne, ne_eq] at ha
          simp only [eqFs] at e
          split at e
          · rename_i a b ea eb
            split at e
            · rename_i r1 rs e1 e2
              injection e with e; subst e
              obtain ⟨va, ha1, ha2⟩ := partD_sound (P := P) ea cs hl hr w
              obtain ⟨vb, hb1, hb2⟩ := partD_sound (P := P) eb cs' hl' hr' w
              have heq := eqD_sound m f.type a b r1 e1 ha.1.2 d (by omega) va vb w ha2 hb2
              simp only [Op.eqFields]
              rw [if_pos ha.1.1]
              simp only [Sem.run_bind, ha1, Result.andThen_ok, hb1, heq]
              cases r1 with
              | false => simp
              | true => simp only [Bool.not_true, Bool.false_eq_true, if_false, Bool.true_and]; exact ih rs e2 (by simpa using ha.2)
            · cases e
          · cases e
      exact go _ r he hok.2
    · cases he

theorem eqR_sound {t : TypeId} {x y : DV} {r : Bool} {σ : Objs} (hi : Inv C σ h β w) (hn : eqNeed σ x y = true) (he : eqR P t x y = some r) {u v : Value} (hu : Rep h β u x) (hv : Rep h β v y) :
    (∀ op xo yo, (eqGuard op t xo yo u v).run P w = .ok () w) ∧ (∀ d, (Op.equalIn (d + 1) t u v).run P w = .ok r w) ∧ (binOp .eql t u v = (do pure (.bool (← Op.equal t u v)))) ∧ (binOp .neq t u v = (do pure (.bool (!(← Op.equal t u v))))) := by
  unfold eqR at he
  split at he
  · rename_i ht
    injection he with he; subst he
    cases hu; cases hv
    exact ⟨fun op xo yo => by cases op <;> simp [eqGuard], fun d => by simp [Op.equalIn, run_underlying ht], rfl, rfl⟩
  · rename_i ht
    injection he with he; subst he
    cases hv
    cases hu with
    | list a n c _ sz vs hn hnc hz hsz hc ho hr =>
    obtain ⟨ad, rfl, _⟩ := hc 0 _ 0 _ rfl rfl
    exact ⟨fun op xo yo => by cases op <;> simp [eqGuard], fun d => by simp [Op.equalIn, run_underlying ht], rfl, rfl⟩
  · rename_i ht
    injection he with he; subst he
    cases hu
    cases hv with
    | list a n c _ sz vs hn hnc hz hsz hc ho hr =>
    obtain ⟨ad, rfl, _⟩ := hc 0 _ 0 _ rfl rfl
    exact ⟨fun op xo yo => by cases op <;> simp [eqGuard], fun d => by simp [Op.equalIn, run_underlying ht], rfl, rfl⟩
  · -- a slice of an object that has elements
    rename_i id off len ht
    have hb : hasEls σ id = true := hn
    injection he with he; subst he
    cases hv
    unfold hasEls at hb
    split at hb
    case h_2 => cases hb
    rename_i po hpo
    have hne : po.els ≠ [] := by intro e; rw [e] at hb; cases hb
    rcases hi.live _ po hpo with ⟨b, K, hbl⟩ | ⟨_, e⟩
    case inr => exact absurd e hne
    cases hu with
    | refDead _ _ _ _ q => rw [hbl] at q; cases q
    | refNil _ q => rw [hbl] at q; cases q
    | refAt _ _ _ cap o b' sz N K' t' q1 q2 q3 q4 =>
    exact ⟨fun op xo yo => by cases op <;> simp [eqGuard], fun d => by simp [Op.equalIn, run_underlying ht], rfl, rfl⟩
  · rename_i ht
    injection he with he; subst he
    cases hu; cases hv
    exact ⟨fun op xo yo => by cases op <;> simp [eqGuard], fun d => by simp [Op.equalIn, run_underlying ht], rfl, rfl⟩
  · rename_i id ht
    have hb : isObj σ id = true := hn
    injection he with he; subst he
    cases hv
    unfold isObj at hb
    split at hb
    case h_2 => cases hb
    rename_i po hpo
    cases hu with
    | hndDead _ _ _ q => exact absurd q (boxOk_alive hi hpo)
    | mapAt _ b sz N K q =>
    exact ⟨fun op xo yo => by cases op <;> simp [eqGuard], fun d => by simp [Op.equalIn, run_underlying ht], rfl, rfl⟩
  · rename_i id ht
    have hb : isObj σ id = true := hn
    injection he with he; subst he
    cases hu
    unfold isObj at hb
    split at hb
    case h_2 => cases hb
    rename_i po hpo
    cases hv with
    | hndDead _ _ _ q => exact absurd q (boxOk_alive hi hpo)
    | mapAt _ b sz N K q =>
    exact ⟨fun op xo yo => by cases op <;> simp [eqGuard], fun d => by simp [Op.equalIn, run_underlying ht], rfl, rfl⟩
  · rename_i ht
    injection he with he; subst he
    cases hu; cases hv
    exact ⟨fun op xo yo => by cases op <;> simp [eqGuard], fun d => by simp [Op.equalIn, run_underlying ht], rfl, rfl⟩
  · rename_i ht
    injection he with he; subst he
    cases hu; cases hv
    exact ⟨fun op xo yo => by cases op <;> simp [eqGuard], fun d => by simp [Op.equalIn, run_underlying ht], rfl, rfl⟩
  · rename_i id i j ht
    have hb : isObj σ id = true := hn
    injection he with he; subst he
    cases hv
    unfold isObj at hb
    split at hb
    case h_2 => cases hb
    rename_i po hpo
    obtain ⟨b, K, _, hv⟩ := pointer_of hi hpo hu
    subst hv
    exact ⟨fun op xo yo => by cases op <;> simp [eqGuard], fun d => by simp [Op.equalIn, run_underlying ht], rfl, rfl⟩
  · rename_i id i j ht
    have hb : isObj σ id = true := hn
    injection he with he; subst he
    cases hu
    unfold isObj at hb
    split at hb
    case h_2 => cases hb
    rename_i po hpo
    obtain ⟨b, K, _, hv⟩ := pointer_of hi hpo hv
    subst hv
    exact ⟨fun op xo yo => by cases op <;> simp [eqGuard], fun d => by simp [Op.equalIn, run_underlying ht], rfl, rfl⟩
  · rename_i ht
    injection he with he; subst he
    cases hu; cases hv
    exact ⟨fun op xo yo => by cases op <;> simp [eqGuard], fun d => by simp [Op.equalIn, run_underlying ht], rfl, rfl⟩
  · rename_i ht
    injection he with he; subst he
    cases hu; cases hv
    exact ⟨fun op xo yo => by cases op <;> simp [eqGuard], fun d => by simp [Op.equalIn, run_underlying ht], rfl, rfl⟩
  · cases he

theorem eqTop_run {t : TypeId} {x y : DV} {K : Bool → Prop} {D : Prop} {σ : Objs} (hi : Inv C σ h β w) (hk : eqTop P σ t x y K D) {u v : Value} (hu : Rep h β u x) (hv : Rep h β v y) (xo yo : Operand) :
    D ∨ ∃ r, K r ∧ (∀ op, (eqGuard op t xo yo u v).run P w = .ok () w) ∧ (binOp .eql t u v).run P w = .ok (.bool r) w ∧ (binOp .neq t u v).run P w = .ok (.bool (!r)) w := by
  unfold eqTop at hk
  split at hk
  · rename_i xs ys
    obtain ⟨hok, hk⟩ := hk
    obtain ⟨r, hr, hk⟩ := optK_some hk
    unfold EqOk at hok
    rw [Bool.and_eq_true, Bool.not_eq_true'] at hok
    have heq := eqD_sound 6 t _ _ r hr hok.1 10000 (by decide) u v w hu hv
    cases hu with
    | agg cs _ hl hrr =>
    cases hv with
    | agg cs' _ hl' hrr' =>
    exact .inr ⟨r, hk, fun op => run_eqGuard_agg w op t xo yo cs cs' hok.2, by rw [run_eql_struct, heq]; rfl, by rw [run_neq_struct, heq]; rfl⟩
  · split at hk
    · rename_i r hr
      obtain ⟨hn, hk⟩ := bif_true hk
      obtain ⟨h0, h1, h2, h3⟩ := eqR_sound hi hn hr hu hv
      have heq : (Op.equal t u v).run P w = .ok r w := h1 9999
      exact .inr ⟨r, hk, fun op => h0 op xo yo, by rw [h2, Sem.run_bind, heq]; rfl, by rw [h3, Sem.run_bind, heq]; rfl⟩
    · exact .inl hk

theorem bytesD_get : ∀ (xs : List (List DV)) (bs : List UInt8), bytesD xs = some bs → xs.length = bs.length ∧ ∀ (i : Nat) ds, xs[i]? = some ds → ∃ n, ds = [.int .u8 n] ∧ bs[i]? = some (UInt8.ofNat n.toNat)
  | [], bs, h => by
    simp [bytesD] at h; subst h
    exact ⟨rfl, fun i ds e => by simp at e⟩
  | x :: xs, bs, h => by
    simp only [bytesD] at h
    split at h
    · rename_i b bs' hb hbs
      injection h with h
      subst h
      obtain ⟨h1, h2⟩ := bytesD_get xs bs' hbs
      refine ⟨by simp [h1], fun i ds e => ?_⟩
      cases i with
      | zero =>
        simp at e; subst e
        unfold byteD at hb
        split at hb
        · rename_i n
          injection hb with hb
          exact ⟨n, rfl, by simp [hb]⟩
        · cases hb
      | succ i =>
        obtain ⟨n, h3, h4⟩ := h2 i ds (by simpa using e)
        exact ⟨n, h3, by simpa using h4⟩
    · cases h

theorem s2b_run {s t : TypeId} {σ : Objs} (hi : Inv C σ h β w) {v : Value} {d r : DV} (hr : Rep h β v d) (hb : s2b P s t d = some r) :
    ∃ v' w' h', (convert s t v).run P w = .ok v' w' ∧ HLe h h' ∧ Rep h' β v' r ∧ Inv C σ h' β w' := by
  unfold s2b at hb
  split at hb
  case h_2 => cases hb
  rename_i b e hs ht
  split at hb
  case h_2 => cases hb
  rename_i hu
  injection hb with hb
  subst hb
  obtain rfl : v = .string b := rep_toV rfl hr
  have hrun := Lib.run_convert_string_bytes (P := P) w s t e b hs ht hu
  have hno : h w.heap.size = none := by
    cases hx : h w.heap.size with
    | none => rfl
    | some o => have := lt_of_some (hi.view _ _ hx); omega
  have hnew := Lib.bytesWorld_at_new w e b
  generalize hO : Obj.cells (Lib.bytesCells w e b) e ((Lib.bytesCells w e b).size, (Lib.bytesCells w e b).size + 1) = O at hnew
  have hle : HLe h (fun k => if k = w.heap.size then some O else h k) := by
    intro k o eb
    have hne : k ≠ w.heap.size := by rintro rfl; rw [hno] at eb; cases eb
    show (if k = w.heap.size then _ else h k) = some o
    rw [if_neg hne]; exact eb
  refine ⟨_, _, fun k => if k = w.heap.size then some O else h k, hrun, hle, ?_, ?_⟩
  · refine .list _ b.size (grownCap w b.size 0 e) _ 1 (fun i j => .int .u8 ((b.data.toList.getD i 0).toNat)) (by rw [List.length_map]; exact Array.length_toList) (grownCap_ge _ _ _ _) (fun e => by cases e) ?_ ?_ ?_ ?_
    · intro i ds e1
      rw [List.getElem?_map] at e1
      obtain ⟨x, _, rfl⟩ := Option.map_eq_some_iff.1 e1
      rfl
    · intro i ds j d e1 e2
      rw [List.getElem?_map] at e1
      obtain ⟨x, hx, rfl⟩ := Option.map_eq_some_iff.1 e1
      have hj : j = 0 := by have := (List.getElem?_eq_some_iff.1 e2).1; simp at this; exact this
      subst hj
      refine ⟨_, rfl, ?_⟩
      have hil : i < b.size := by
        have hlt := (List.getElem?_eq_some_iff.1 hx).1
        rw [Array.length_toList] at hlt; exact hlt
      rw [add_at]
      have hc := Lib.bytesWorld_cell w e b i hil
      unfold World.cell? at hc
      rw [hnew] at hc
      unfold hcell
      simp only [if_true, Nat.zero_add, Nat.mul_one, Nat.add_zero] at hc ⊢
      exact hc
    · intro i ds j d e1 e2; rfl
    · intro i ds j d e1 e2
      rw [List.getElem?_map] at e1
      obtain ⟨x, hx, rfl⟩ := Option.map_eq_some_iff.1 e1
      have hj : j = 0 := by have := (List.getElem?_eq_some_iff.1 e2).1; simp at this; exact this
      subst hj
      simp only [List.getElem?_cons_zero, Option.some.injEq] at e2
      subst e2
      have : b.data.toList.getD i 0 = x := by rw [List.getD_eq_getElem?_getD, hx]; rfl
      rw [this]; exact .int _ _
  · have hbel : Below w.heap.size w (Lib.bytesWorld w e b) := ⟨rfl, rfl, rfl, by rw [Lib.bytesWorld_size]; omega, fun k hk => Lib.bytesWorld_at_old w e b k hk⟩
    refine inv_call hi hbel ?_ hle ?_
    · intro k o eb
      by_cases hk : k = w.heap.size
      · subst hk
        rw [if_pos rfl] at eb; rw [← eb]; exact hnew
      · rw [if_neg hk] at eb
        have hv := hi.view _ _ eb
        rw [Lib.bytesWorld_at_old w e b k (lt_of_some hv)]; exact hv
    · intro k o eb
      by_cases hk : k = w.heap.size
      · right; omega
      · rw [if_neg hk] at eb
        exact .inl ⟨eb, lt_of_some (hi.view _ _ eb)⟩

theorem cvt_run {s t e : TypeId} (hs : P.underlying s = some (.slice e)) (ht : P.underlying t = some .string) (he : P.underlying e = some (.int .u8)) {σ : Objs} (hi : Inv C σ h β w)
    {v : Value} {d : DV} (r : Rep h β v d) {els : List (List DV)} (hels : elsOf σ d = some els) {bs : List UInt8} (hbs : bytesD els = some bs) :
    (convert s t v).run P w = .ok (.string ⟨bs.toArray⟩) w := by
  obtain ⟨ad, m, c, rfl, hm, hmc, hz, sz, hsz, hcell⟩ := els_sound hi r hels
  obtain ⟨hl, hget⟩ := bytesD_get els bs hbs
  rw [run_convert_bytes_string w s t e ad m c hs he ht]
  cases ad with
  | none =>
    have := hz rfl
    have : bs = [] := List.length_eq_zero_iff.1 (by omega)
    subst this
    rfl
  | some b =>
    have hnum : ∀ i (hi : i < els.length), ∃ n, els[i] = [.int .u8 n] ∧ bs[i]? = some (UInt8.ofNat n.toNat) := fun i hi => hget i _ (List.getElem?_eq_getElem hi)
    have hsz1 : 0 < els.length → sz = 1 := by
      intro h0
      obtain ⟨n, h1, _⟩ := hnum 0 h0
      have := hsz 0 _ (List.getElem?_eq_getElem h0)
      rw [h1] at this; simpa using this.symm
    obtain ⟨ns, hns, hnb, hnc⟩ : ∃ ns : List Int, ns.length = els.length ∧ (ns.map fun n => UInt8.ofNat n.toNat) = bs ∧ ∀ (i : Nat) (n : Int), ns[i]? = some n → els[i]? = some [DV.int .u8 n] := by
      refine ⟨els.map fun ds => match ds with | [.int .u8 n] => n | _ => 0, by simp, ?_, ?_⟩
      · apply List.ext_getElem?
        intro i
        by_cases hlt : i < els.length
        · obtain ⟨n, h1, h2⟩ := hnum i hlt
          rw [h2]; simp [hlt, h1]
        · rw [List.getElem?_eq_none (by simp; omega), List.getElem?_eq_none (by omega)]
      · intro i n e
        have hlt : i < els.length := by have := (List.getElem?_eq_some_iff.1 e).1; simpa using this
        obtain ⟨n', h1, _⟩ := hnum i hlt
        simp [hlt, h1] at e; subst e
        rw [List.getElem?_eq_getElem hlt, h1]
    have hload : (loadCells b m).run P w = .ok (ns.map (Value.int .u8)).toArray w := by
      have := run_loadCells_list (P := P) w b (ns.map (Value.int .u8)) (fun j v hj => by
        obtain ⟨n, h1, rfl⟩ : ∃ n, ns[j]? = some n ∧ Value.int .u8 n = v := by simpa using hj
        have h2 := hnc j n h1
        obtain ⟨b', u, hb', hc, _, hr⟩ := hcell j _ 0 _ h2 rfl
        injection hb' with hb'; subst hb'
        have h0 : 0 < els.length := by have := (List.getElem?_eq_some_iff.1 h2).1; omega
        rw [hsz1 h0, Nat.mul_one, Nat.add_zero] at hc
        rw [hc, int_of hr])
      rw [hm, ← hns]
      simpa using this
    rw [run_bytesToString w b m c ns hload, foldl_push_bytes, ← hnb]
    simp [ByteArray.empty, ByteArray.emptyWithCapacity]
    rfl

theorem vop_sound {det : Det} {o : Oper} {env : Env} {σ : Objs} {K : DV → Objs → Prop} (hk : vop P det o env σ K) (hi : Inv C σ h β w) (he : ∀ t, Rep h β (a.tmps.getD t undef) (env t)) {next : Act → World → Prop} {Q : Exit → Act → World → Prop}
    (hnext : VNext C h β a o K next) : o.wp P a w next Q := by
  unfold vop at hk
  split at hk
  · rename_i x ho
    exact wp_value (w' := w) (by unfold execOp; rw [ho]; rfl) (hnext _ _ _ _ _ _ hi (HLe.refl _) (BLe.refl _) (rep_ev he x) hk)
  · rename_i x ho
    exact wp_value (w' := w) (by unfold execOp; rw [ho]; rfl) (hnext _ _ _ _ _ _ hi (HLe.refl _) (BLe.refl _) (rep_ev he x) hk)
  · rename_i c x y ho
    have hc := rep_ev he c
    split at hk
    · rename_i b hb
      rw [hb] at hc
      have hce : a.eval c = .bool b := rep_toV rfl hc
      have hrun : (execOp a.eval o).run P w = .ok (.value (if b then a.eval x else a.eval y)) w := by
        unfold execOp; rw [ho]; simp [hce, asBool]
      cases b with
      | true => exact wp_value hrun (hnext _ _ _ _ _ _ hi (HLe.refl _) (BLe.refl _) (rep_ev he x) (hk.1 rfl))
      | false => exact wp_value hrun (hnext _ _ _ _ _ _ hi (HLe.refl _) (BLe.refl _) (rep_ev he y) (hk.2 rfl))
    · exact hk.elim
  · -- alloc
    rename_i t ho
    obtain ⟨cs, hz, hk⟩ := optK_some hk
    obtain ⟨hce, hzD⟩ := zeroC_some hz
    cases hall : cs.all (cellOk σ) with
    | false => rw [hall] at hk; exact hk.elim
    | true =>
    rw [hall] at hk
    unfold zeroD at hzD
    cases hit : P.info? t with
    | none => simp [hit] at hzD
    | some it =>
      simp only [hit, Option.map_eq_some_iff] at hzD
      obtain ⟨z, hz0, rfl⟩ := hzD
      obtain ⟨z1, z2⟩ := rep_zero (h := h) (β := β) z
      obtain ⟨β', hle, hid, hi'⟩ := inv_new hi t hce z.cells (cellsD (ofV z)).length 1 [cellsD (ofV z)] (by simp) (by decide) (by rw [z1]; simp) (by
        intro i ds e
        cases i with
        | succ i => simp at e
        | zero =>
          simp at e; subst e
          refine ⟨rfl, fun j d e2 => ?_⟩
          have hlt : j < z.cells.size := by rw [z1]; exact (List.getElem?_eq_some_iff.1 e2).1
          have r2 := z2 j _ _ (Array.getElem?_eq_getElem hlt) e2
          exact ⟨z.cells[j], by simp [hlt], one_cell hi r2 (List.all_eq_true.1 hall _ (List.mem_of_getElem? e2)), r2⟩)
      refine wp_value (v := .pointer (some ⟨w.heap.size, 0, none⟩)) (w' := w.alloc (.cells z.cells t)) ?_ (hnext _ _ _ _ _ _ hi' (HLe.refl _) hle ?_ hk)
      · unfold execOp; rw [ho]
        simp only [Instr.alloc, zeroValue, Sem.run_bind, run_typeInfo w hit, hz0, Result.andThen_ok, Sem.run_pure]
        rfl
      · have := Rep.pobjAt (h := h) (β := β') _ 0 0 _ _ _ _ _ hid hce
        simpa using this
  · -- box
    rename_i t x ho
    cases hbb : ((boxOk σ (ev env x) && (cellsD (ev env x)).all (cellOk σ)) && cellTy t) with
    | false => rw [hbb] at hk; exact hk.elim
    | true =>
      rw [hbb] at hk
      rw [Bool.and_eq_true, Bool.and_eq_true] at hbb
      obtain ⟨⟨hb, hall⟩, hce⟩ := hbb
      obtain ⟨z1, z2⟩ := rep_cells hi (rep_ev he x) hb
      obtain ⟨β', hle, hid, hi'⟩ := inv_new hi t hce (a.eval x).cells (cellsD (ev env x)).length 1 [cellsD (ev env x)] (by simp) (by decide) (by rw [z1]; simp) (by
        intro i ds e
        cases i with
        | succ i => simp at e
        | zero =>
          simp at e; subst e
          refine ⟨rfl, fun j d e2 => ?_⟩
          have hlt : j < (a.eval x).cells.size := by rw [z1]; exact (List.getElem?_eq_some_iff.1 e2).1
          have r2 := z2 j _ _ (Array.getElem?_eq_getElem hlt) e2
          exact ⟨(a.eval x).cells[j], by simp [hlt], one_cell hi r2 (List.all_eq_true.1 hall _ (List.mem_of_getElem? e2)), r2⟩)
      refine wp_value (v := .pointer (some ⟨w.heap.size, 0, none⟩)) (w' := w.alloc (.cells (a.eval x).cells t)) ?_ (hnext _ _ _ _ _ _ hi' (HLe.refl _) hle ?_ hk)
      · unfold execOp; rw [ho]; rfl
      · have := Rep.pobjAt (h := h) (β := β') _ 0 0 _ _ _ _ _ hid hce
        simpa using this
  · -- build
    rename_i t parts ho
    cases hb : parts.toList.all (fun p => boxOk σ (ev env p.2)) with
    | false => rw [hb] at hk; exact hk.elim
    | true =>
      rw [hb] at hk
      obtain ⟨cs, hbd, hk⟩ := optK_some hk
      obtain ⟨cells, g1, g2⟩ := built_sound hi ((parts.map fun p => (p.1, a.eval p.2)).toList) _ cs (by simp) (by
        intro i p q e1 e2
        simp only [Array.toList_map, List.getElem?_map, Option.map_eq_some_iff] at e1 e2
        obtain ⟨x, hx, rfl⟩ := e1
        obtain ⟨y, hy, rfl⟩ := e2
        rw [hx] at hy; injection hy with hy; subst hy
        exact ⟨rfl, rep_ev he _, List.all_eq_true.1 hb _ (List.mem_of_getElem? hx)⟩) hbd
      refine wp_value (v := .agg cells) (w' := w) ?_ (hnext _ _ _ _ _ _ hi (HLe.refl _) (BLe.refl _) g2 hk)
      unfold execOp; rw [ho]
      simp only [Sem.run_bind, run_build w t _ cells g1, Result.andThen_ok]; rfl
  · -- buildSlice
    rename_i t len parts ho
    split at hk
    · rename_i e hu
      obtain ⟨inf, hinf, hk⟩ := optK_some hk
      obtain ⟨hce, hinf⟩ := infoC_some hinf
      obtain ⟨z, hz, hk⟩ := optK_some hk
      cases hb : (parts.toList.all (fun p => boxOk σ (ev env p.2)) && Nat.ble 1 inf.size && Nat.beq z.length inf.size && Nat.ble (len * inf.size) 16777216) with
      | false => rw [hb] at hk; exact hk.elim
      | true =>
        rw [hb] at hk
        simp only [Bool.and_eq_true] at hb
        obtain ⟨⟨⟨b1, b2⟩, b3⟩, b4⟩ := hb
        obtain ⟨flat, hf, hk⟩ := optK_some hk
        cases hall : flat.all (cellOk σ) with
        | false => rw [hall] at hk; exact hk.elim
        | true =>
          rw [hall] at hk
          simp only [cond_true] at hk
          cases hal : asList det o.dst with
          | false =>
            rw [hal] at hk
            obtain ⟨v, w', β', hrun, hle, hr, hi'⟩ := buildSlice_sound (P := P) hce hu hinf hz hi (Nat.le_of_ble_eq_true b2) (Nat.eq_of_beq_eq_true b3) (Nat.le_of_ble_eq_true b4) (parts.map fun p => (p.1, a.eval p.2)) _ (by simp) (by
              intro i p q e1 e2
              simp only [Array.toList_map, List.getElem?_map, Option.map_eq_some_iff] at e1 e2
              obtain ⟨x, hx, rfl⟩ := e1
              obtain ⟨y, hy, rfl⟩ := e2
              rw [hx] at hy; injection hy with hy; subst hy
              exact ⟨rfl, rep_ev he _, List.all_eq_true.1 b1 _ (List.mem_of_getElem? hx)⟩) hf hall
            refine wp_value (v := v) (w' := w') ?_ (hnext _ _ _ _ _ _ hi' (HLe.refl _) hle hr hk)
            unfold execOp; rw [ho]
            simp only [Sem.run_bind]
            rw [show (parts.map fun (i, x) => (i, a.eval x)) = parts.map fun p => (p.1, a.eval p.2) from rfl, hrun]
            rfl
          | true =>
            rw [hal] at hk
            obtain ⟨hpl, hk⟩ := bif_true hk
            obtain ⟨v, w', h', hrun, hle, hr, hi'⟩ := buildSlice_list (P := P) hu hinf hz hi (Nat.le_of_ble_eq_true b2) (Nat.eq_of_beq_eq_true b3) (Nat.le_of_ble_eq_true b4) (parts.map fun p => (p.1, a.eval p.2)) _ (by simp) (by
              intro i p q e1 e2
              simp only [Array.toList_map, List.getElem?_map, Option.map_eq_some_iff] at e1 e2
              obtain ⟨x, hx, rfl⟩ := e1
              obtain ⟨y, hy, rfl⟩ := e2
              rw [hx] at hy; injection hy with hy; subst hy
              exact ⟨rfl, rep_ev he _, List.all_eq_true.1 b1 _ (List.mem_of_getElem? hx)⟩) hf hall hpl
            refine wp_value (v := v) (w' := w') ?_ (hnext _ _ _ _ _ _ hi' hle (BLe.refl _) hr hk)
            unfold execOp; rw [ho]
            simp only [Sem.run_bind]
            rw [show (parts.map fun (i, x) => (i, a.eval x)) = parts.map fun p => (p.1, a.eval p.2) from rfl, hrun]
            rfl
    · exact hk.elim
  · -- load
    rename_i t x ho
    have hx := rep_ev he x
    split at hk
    · rename_i id i j hev
      obtain ⟨po, ho', hk⟩ := optK_some hk
      obtain ⟨ds, hds, hk⟩ := optK_some hk
      rw [hev] at hx
      obtain ⟨b, K', hb, hv⟩ := pointer_of hi ho' hx
      obtain ⟨b2, K2, hb2, hc⟩ := obj_cells hi ho' (pobj_ty hi ho' hx) hds
      rw [hb] at hb2; injection hb2 with e1; subst e1
      obtain ⟨v, d, hrun, hr, hk⟩ := ld_sound (P := P) hk _ hc
      rw [add_at] at hrun
      refine wp_value ?_ (hnext _ _ _ _ _ _ hi (HLe.refl _) (BLe.refl _) hr hk)
      unfold execOp; rw [ho]
      simp only [Instr.loadAt, hv, Instr.sureAddr, Sem.run_bind, Sem.run_pure, Result.andThen_ok, hrun]
    · rename_i cs hev
      rw [hev] at hx
      obtain ⟨ad, hv, vs, hc, hr⟩ := pim_of hx
      obtain ⟨v, d, hrun, hr', hk⟩ := ld_sound (P := P) (w := w) hk ad (fun j d e => ⟨vs j, cell_of_hcell hi.view (hc j d e), hr j d e⟩)
      rw [add_zero] at hrun
      refine wp_value ?_ (hnext _ _ _ _ _ _ hi (HLe.refl _) (BLe.refl _) hr' hk)
      unfold execOp; rw [ho]
      simp only [Instr.loadAt, hv, Instr.sureAddr, Sem.run_bind, Sem.run_pure, Result.andThen_ok, hrun]
    · exact hk.elim
  · -- store
    rename_i t x y ho
    have hx := rep_ev he x
    split at hk
    · rename_i id i j ag m hev hs
      obtain ⟨po, ho', hk⟩ := optK_some hk
      obtain ⟨ds, hds, hk⟩ := optK_some hk
      rw [hev] at hx
      obtain ⟨b, K', hb, hv⟩ := pointer_of hi ho' hx
      cases hbb : (!po.frz && boxOk σ (ev env y) && (cellsD (ev env y)).all (cellOk σ) && Nat.beq (cellsD (ev env y)).length m && Nat.ble (j + m) ds.length) with
      | false => rw [hbb] at hk; exact hk.elim
      | true =>
        rw [hbb] at hk
        simp only [Bool.and_eq_true, Bool.not_eq_true'] at hbb
        obtain ⟨⟨⟨⟨b1, b2⟩, b3⟩, b4⟩, b5⟩ := hbb
        obtain ⟨w', hrun, hi'⟩ := store_sound hi ho' b1 (pobj_ty hi ho' hx) hds hs (rep_ev he y) b2 b3 (Nat.eq_of_beq_eq_true b4) (Nat.le_of_ble_eq_true b5) hb rfl
        refine wp_skip_ (w' := w') ?_ (hnext _ _ _ _ _ _ hi' (HLe.refl _) (BLe.refl _) (.junk _) hk)
        unfold execOp; rw [ho]
        simp only [Instr.storeAt, hv, Instr.sureAddr, Sem.run_bind, Sem.run_pure, Result.andThen_ok, hrun]
    · exact hk.elim
  · -- fieldAddr
    rename_i t x f ho
    have hx := rep_ev he x
    have hrun : ∀ (ad : Addr) (off : Nat) (u : TypeId), fldOff P t f = some (off, u) → a.eval x = .pointer (some ad) → (execOp a.eval o).run P w = .ok (.value (.pointer (some (ad.add off)))) w := by
      intro ad off u hf hv
      obtain ⟨fs, fd, inf, hu, hfd, rfl, rfl, hinf, hsz⟩ := fld_sound hf
      unfold execOp; rw [ho]
      have : P.cellsOf fd.type = inf.size := by simp [Program.cellsOf, hinf]
      simp [Instr.fieldAt, Sem.run_bind, run_underlying hu, hfd, hv, Instr.sureAddr, fieldPlace, run_sizeOf w hinf, this, hsz]
    split at hk
    · rename_i id i j off u hev hf
      rw [hev] at hx
      obtain ⟨po, ho', hk⟩ := optK_some hk
      obtain ⟨b, K', hb, hv⟩ := pointer_of hi ho' hx
      refine wp_value (hrun _ off u hf hv) (hnext _ _ _ _ _ _ hi (HLe.refl _) (BLe.refl _) ?_ hk)
      rw [add_at, Nat.add_assoc]
      exact .pobjAt _ _ _ _ _ _ _ _ hb (pobj_ty hi ho' hx)
    · rename_i cs off u hev hf
      rw [hev] at hx
      obtain ⟨ad, hv, vs, hc, hr⟩ := pim_of hx
      refine wp_value (hrun ad off u hf hv) (hnext _ _ _ _ _ _ hi (HLe.refl _) (BLe.refl _) ?_ hk)
      refine .pim _ _ (fun j => vs (off + j)) (fun j d e => ?_) (fun j d e => ?_)
      · rw [List.getElem?_drop] at e; rw [add_add]; exact hc _ _ e
      · rw [List.getElem?_drop] at e; exact hr _ _ e
    · exact hk.elim
  · -- field
    rename_i t x f ho
    have hx := rep_ev he x
    split at hk
    · rename_i cs off u hev hf
      rw [hev] at hx
      obtain ⟨fs, fd, inf, hu, hfd, rfl, rfl, hinf, hsz⟩ := fld_sound hf
      obtain ⟨vs, hv, hl, hr⟩ : ∃ vs, a.eval x = .agg vs ∧ vs.size = cs.length ∧ ∀ (i : Nat) (v : Value) (d : DV), vs[i]? = some v → cs[i]? = some d → Rep h β v d := by
        generalize a.eval x = xv at *
        cases hx with
        | agg vs _ hl hr => exact ⟨vs, rfl, hl, hr⟩
      obtain ⟨v, d, hrun, hrd, hk⟩ := part_sound (P := P) (w := w) hk vs hl hr
      refine wp_value (v := v) (w' := w) ?_ (hnext _ _ _ _ _ _ hi (HLe.refl _) (BLe.refl _) hrd hk)
      unfold execOp; rw [ho]
      simp [Instr.field, Sem.run_bind, run_underlying hu, hfd, hv, asAgg, hrun]
    · exact hk.elim
  · -- indexAddr
    rename_i t x i ho
    split at hk
    · rename_i e hu; exact ixK_sound ho hu hk hi he hnext
    · rename_i m e hu; exact ixaK_sound ho hu hk hi he hnext
    · exact hk.elim
  · -- index
    rename_i t x i ho
    have hx := rep_ev he x
    split at hk
    · rename_i s hu hev
      obtain ⟨k, z, ei, h0, hk⟩ := isInt_some hk
      obtain ⟨b, hb, hk⟩ := optK_some hk
      have hix := rep_ev he i
      rw [ei] at hix
      rw [hev] at hx
      have hxv : a.eval x = .string s := rep_toV rfl hx
      refine wp_value (v := .int .u8 b.toNat) (w' := w) ?_ (hnext _ _ _ _ _ _ hi (HLe.refl _) (BLe.refl _) (.int _ _) hk)
      unfold execOp; rw [ho]
      simp [Instr.index, Sem.run_bind, run_underlying hu, hxv, int_of hix, asIntOf, h0, hb]
    · rename_i m e cs hu hev
      obtain ⟨k, z, ei, hk⟩ := isInt_some hk
      obtain ⟨s, hsz, hk⟩ := optK_some hk
      obtain ⟨inf, hinf, rfl⟩ := szOf_some hsz
      obtain ⟨h0, h1, hk⟩ := hk
      have hix := rep_ev he i
      rw [ei] at hix
      rw [hev] at hx
      obtain ⟨vs, hv, hl, hr⟩ : ∃ vs, a.eval x = .agg vs ∧ vs.size = cs.length ∧ ∀ (i : Nat) (v : Value) (d : DV), vs[i]? = some v → cs[i]? = some d → Rep h β v d := by
        generalize a.eval x = xv at *
        cases hx with
        | agg vs _ hl hr => exact ⟨vs, rfl, hl, hr⟩
      obtain ⟨v, d, hrun, hrd, hk⟩ := part_sound (P := P) (w := w) hk vs hl hr
      refine wp_value (v := v) (w' := w) ?_ (hnext _ _ _ _ _ _ hi (HLe.refl _) (BLe.refl _) hrd hk)
      unfold execOp; rw [ho]
      have hc : P.cellsOf e = inf.size := by simp [Program.cellsOf, hinf]
      simp [Instr.index, Sem.run_bind, run_underlying hu, hv, int_of hix, asIntOf, h0, h1, run_sizeOf w hinf, hc, hrun]
    · exact hk.elim
  · -- slice
    rename_i t x lo hi' mx ho
    have hx := rep_ev he x
    split at hk
    · rename_i s hu hev
      obtain ⟨l, u, hb, hlu, hus, hk⟩ := bnd_sound (P := P) (w := w) he hk false s.size (Nat.le_refl _) (Nat.le_refl _)
      rw [hev] at hx
      have hxv : a.eval x = .string s := rep_toV rfl hx
      refine wp_value (v := .string (s.extract l u)) (w' := w) ?_ (hnext _ _ _ _ _ _ hi (HLe.refl _) (BLe.refl _) (.str _) hk)
      unfold execOp; rw [ho]
      simp [Instr.sliceAt, Instr.slice, Sem.run_bind, run_underlying hu, hxv, hb]
    · rename_i e hu hev
      rw [hev] at hx
      have hxv : a.eval x = .slice none 0 0 := by
        generalize a.eval x = xv at *
        cases hx; rfl
      have hsz : ∀ {i}, P.info? e = some i → True := fun _ => trivial
      cases hinf : P.info? e with
      | none =>
        obtain ⟨s, hs1, hk⟩ := optK_some hk
        obtain ⟨i, hi1, _⟩ := szOf_some hs1
        rw [hinf] at hi1; cases hi1
      | some inf =>
        obtain ⟨s, hs1, hk⟩ := optK_some hk
        obtain ⟨l, u, hb, hlu, hus, hk⟩ := bnd_sound (P := P) (w := w) he hk true 0 (Nat.le_refl _) (Nat.le_refl _)
        have hu0 : u = 0 := by omega
        have hl0 : l = 0 := by omega
        subst hu0; subst hl0
        refine wp_value (v := .slice none 0 0) (w' := w) ?_ (hnext _ _ _ _ _ _ hi (HLe.refl _) (BLe.refl _) .nils hk)
        unfold execOp; rw [ho]
        simp [Instr.sliceAt, Instr.slice, Sem.run_bind, run_underlying hu, hxv, hb, run_sizeOf w hinf]
    · rename_i e xs hu hev
      obtain ⟨s, hs1, hk⟩ := optK_some hk
      obtain ⟨inf, hinf, rfl⟩ := szOf_some hs1
      obtain ⟨hall, hk⟩ := hk
      rw [hev] at hx
      obtain ⟨ad, m, c, hxv, hm, hmc, _⟩ := slice_list hx hall (Nat.le_refl 0) (Nat.zero_le _)
      subst hm
      obtain ⟨l, u, hb, hlu, hus, hk⟩ := bnd_sound (P := P) (w := w) he hk true c hmc (Nat.le_refl _)
      obtain ⟨ad', m', c', hxv', _, _, hr⟩ := slice_list hx hall hlu hus
      rw [hxv] at hxv'; injection hxv' with e1 e2 e3; subst e1; subst e3
      refine wp_value (v := _) (w' := w) ?_ (hnext _ _ _ _ _ _ hi (HLe.refl _) (BLe.refl _) hr hk)
      unfold execOp; rw [ho]
      have hc : P.cellsOf e = inf.size := by simp [Program.cellsOf, hinf]
      simp [Instr.sliceAt, Instr.slice, Sem.run_bind, run_underlying hu, hxv, hb, run_sizeOf w hinf, hc]
    · rename_i e id off len hu hev
      obtain ⟨s, hs1, hk⟩ := optK_some hk
      obtain ⟨inf, hinf, rfl⟩ := szOf_some hs1
      obtain ⟨po, hpo, hk⟩ := optK_some hk
      cases hbb : Nat.beq po.sz inf.size with
      | false => rw [hbb] at hk; exact hk.elim
      | true =>
        rw [hbb, cond_true] at hk
        have hsz := Nat.eq_of_beq_eq_true hbb
        rw [hev] at hx
        have hlen : len ≤ po.els.length - off := by
          generalize a.eval x = xv at *
          cases hx with
          | refDead _ _ _ _ hb => exact absurd hb (boxOk_alive hi hpo)
          | refNil _ hb => exact Nat.zero_le _
          | refAt _ _ _ cap oo b sz N K' t' hb g1 g2 g3 =>
            rcases hi.live id po hpo with ⟨b2, K2, hb2⟩ | ⟨hb2, _⟩
            · rw [hb] at hb2; injection hb2 with e1 e2 e3 e4 e5; omega
            · rw [hb] at hb2; cases hb2
        obtain ⟨ad, c, hxv, hmc, _⟩ := slice_ref hi hx hpo (Nat.le_refl 0) (Nat.zero_le _) hlen
        obtain ⟨l, u, hb, hlu, hus, hk⟩ := bnd_sound (P := P) (w := w) he hk true c hmc hlen
        obtain ⟨ad', c', hxv', _, hr⟩ := slice_ref hi hx hpo hlu hus hlen
        rw [hxv] at hxv'; injection hxv' with e1 e2 e3; subst e1; subst e3
        refine wp_value (v := _) (w' := w) ?_ (hnext _ _ _ _ _ _ hi (HLe.refl _) (BLe.refl _) hr hk)
        unfold execOp; rw [ho]
        have hc : P.cellsOf e = po.sz := by simp [Program.cellsOf, hinf, hsz]
        simp [Instr.sliceAt, Instr.slice, Sem.run_bind, run_underlying hu, hxv, hb, run_sizeOf w hinf, hc]
    · -- with a bound
      rename_i e mo hu
      split at hk
      case h_2 => exact hk.elim
      rename_i uo
      unfold sl3K at hk
      obtain ⟨ku, zu, eu, hk⟩ := isInt_some hk
      obtain ⟨km, zm, em, hk⟩ := isInt_some hk
      have rU := rep_ev he uo
      have rM := rep_ev he mo
      rw [eu] at rU; rw [em] at rM
      have hU := int_of rU
      have hM := int_of rM
      obtain ⟨zl, hlo, hk⟩ := lowK_some he hk
      obtain ⟨h0, h1, h2, hk⟩ := hk
      obtain ⟨l, rfl⟩ : ∃ l : Nat, zl = l := ⟨zl.toNat, by omega⟩
      obtain ⟨u, rfl⟩ : ∃ u : Nat, zu = u := ⟨zu.toNat, by omega⟩
      obtain ⟨m, rfl⟩ : ∃ m : Nat, zm = m := ⟨zm.toNat, by omega⟩
      unfold sl3M at hk
      simp only [Int.toNat_natCast] at hk
      have hlo' : (lo.map a.eval = none ∧ l = 0) ∨ ∃ k, lo.map a.eval = some (.int k l) := by
        rcases hlo with ⟨e1, e2⟩ | ⟨k, y, e1, e2⟩
        · exact .inl ⟨by rw [e1]; rfl, by omega⟩
        · exact .inr ⟨k, by rw [e1]; simp [e2]⟩
      have hbr : ∀ (len cap : Nat) (w : World), m ≤ cap → (Instr.sliceBounds true len cap (lo.map a.eval) (some (a.eval uo)) (some (a.eval mo))).run P w = .ok (l, u, m) w := fun len cap w hc => bnd3_run hU hM hlo' (by omega) (by omega) hc w
      split at hk
      · rename_i hev
        obtain ⟨hm0, hk1⟩ := hk
        obtain ⟨s, hs1, hk2⟩ := optK_some hk1
        obtain ⟨inf, hinf, _⟩ := szOf_some hs1
        have hm0' : m = 0 := by omega
        have hu0 : u = 0 := by omega
        have hl0 : l = 0 := by omega
        rw [hm0', hu0, hl0] at hbr
        rw [hev] at hx
        have hxv : a.eval x = .slice none 0 0 := by
          generalize a.eval x = xv at *
          cases hx; rfl
        refine wp_value (v := .slice none 0 0) (w' := w) ?_ (hnext _ _ _ _ _ _ hi (HLe.refl _) (BLe.refl _) .nils hk2)
        unfold execOp; rw [ho]
        simp [Instr.sliceAt, Instr.slice, Sem.run_bind, run_underlying hu, hxv, hbr 0 0 w (Nat.le_refl _), run_sizeOf w hinf]
      · rename_i xs hev
        obtain ⟨s, hs1, hk⟩ := optK_some hk
        obtain ⟨inf, hinf, rfl⟩ := szOf_some hs1
        obtain ⟨hall, hm2, hk⟩ := hk
        rw [hev] at hx
        obtain ⟨ad, n, c, hxv, hn, hnc, hr⟩ := slice_list3 hx hall (l := l) (u := u) (m := m) (by omega) (by omega) (by omega)
        refine wp_value (v := _) (w' := w) ?_ (hnext _ _ _ _ _ _ hi (HLe.refl _) (BLe.refl _) hr hk)
        unfold execOp; rw [ho]
        have hc : P.cellsOf e = inf.size := by simp [Program.cellsOf, hinf]
        simp [Instr.sliceAt, Instr.slice, Sem.run_bind, run_underlying hu, hxv, hbr n c w (by omega), run_sizeOf w hinf, hc]
      · rename_i id off len hev
        unfold plainDet at hk
        split at hk
        case h_2 => exact hk.elim
        obtain ⟨s, hs1, hk⟩ := optK_some hk
        obtain ⟨inf, hinf, rfl⟩ := szOf_some hs1
        obtain ⟨po, hpo, hk⟩ := optK_some hk
        obtain ⟨hb, hk9⟩ := bif_true hk
        rw [Bool.and_eq_true] at hb
        have hle := Nat.le_of_ble_eq_true hb.2
        rw [hev] at hx
        cases hcl : clipB po off len l u m with
        | true =>
          rw [hcl] at hk9
          simp only [cond_true] at hk9
          unfold clipB at hcl
          simp only [Bool.and_eq_true, Bool.not_eq_true', decide_eq_true_iff] at hcl
          obtain ⟨⟨⟨⟨⟨c1, c2⟩, c3⟩, c4⟩, c5⟩, c6⟩ := hcl
          have c3 := Nat.eq_of_beq_eq_true c3
          have hl0 : l = 0 := by omega
          have hul : u = len := by omega
          have hml : m = len := by omega
          subst c3; subst hl0; subst hul; subst hml
          obtain ⟨ad, c, β', hxv, hlc, hble, hr2, hi2⟩ := inv_clip hi hpo c1 c2 (by omega) hx
          refine wp_value (v := .slice ad m m) (w' := w) ?_ (hnext _ _ _ _ _ _ hi2 (HLe.refl _) hble hr2 hk9)
          unfold execOp; rw [ho]
          have hc : P.cellsOf e = inf.size := by simp [Program.cellsOf, hinf]
          have hadd : (fun a : Addr => a.add 0) = (fun a => a) := by funext a; simp [Addr.add]
          simp [Instr.sliceAt, Instr.slice, Sem.run_bind, run_underlying hu, hxv, hbr m c w hlc, run_sizeOf w hinf, hc, hadd, Option.map_id']
        | false =>
        rw [hcl] at hk9
        simp only [cond_false] at hk9
        obtain ⟨hm2, hbl, hall, hk⟩ := hk9
        obtain ⟨hF, hleF, hiF⟩ := inv_frz [id] σ h hi
        have hfo : fobj (frz [id] σ) id = some ⟨true, po.sz, po.ty, po.els⟩ := by
          simp only [frz, hpo]
          unfold fobj
          rw [obj_set_eq (obj_lt hpo)]; rfl
        have hsn : Snap (fobj (frz [id] σ)) (.ref id off len) (.list ((po.els.drop off).take len)) := by
          have hg : ∀ i ds, ((po.els.drop off).take len)[i]? = some ds → po.els[off + i]? = some ds := by
            intro i ds e
            rw [List.getElem?_take] at e
            split at e
            · rwa [List.getElem?_drop] at e
            · cases e
          refine .ref _ _ _ _ _ hfo (by simp; omega) (fun i ds e => ⟨ds, hg i ds e, rfl⟩) ?_
          intro i ds e j d e' q1 q2 q3 q4
          rw [hg i ds q1] at q2; injection q2 with q2; subst q2
          rw [q3] at q4; injection q4 with q4; subst q4
          exact .pure _ (hbl _ (List.mem_of_getElem? q1) _ (List.mem_of_getElem? q3))
        have hx2 := (rep_snapF hiF hsn (hx.mono hleF (BLe.refl β))).mono (HLe.refl hF) (β' := β) (fun id => .inr (.inl rfl))
        obtain ⟨ad, n, c, hxv, hn, hnc, hr⟩ := slice_list3 hx2 hall (l := l) (u := u) (m := m) (by omega) (by omega) (by simp; omega)
        refine wp_value (v := _) (w' := w) ?_ (hnext _ _ _ _ _ _ hiF hleF (BLe.refl _) hr hk)
        unfold execOp; rw [ho]
        have hc : P.cellsOf e = inf.size := by simp [Program.cellsOf, hinf]
        have hn2 : n = len := by rw [hn]; simp; omega
        simp [Instr.sliceAt, Instr.slice, Sem.run_bind, run_underlying hu, hxv, hbr n c w (by omega), run_sizeOf w hinf, hc]
      · exact hk.elim
    · exact hk.elim
  · -- makeSlice
    rename_i t l c ho
    split at hk
    · rename_i e hu
      obtain ⟨inf, hinf, hk⟩ := optK_some hk
      obtain ⟨hce, hinf⟩ := infoC_some hinf
      obtain ⟨z, hz, hk⟩ := optK_some hk
      obtain ⟨kl, lz, el, hk⟩ := isInt_some hk
      obtain ⟨kc, cz, ec, hk⟩ := isInt_some hk
      obtain ⟨h0, h1, h2, h3, h4, h5, h6, hk⟩ := hk
      have hl := rep_ev he l
      have hc := rep_ev he c
      rw [el] at hl; rw [ec] at hc
      obtain ⟨v, w', β', hrun, hle, hr, hi'⟩ := make_sound (P := P) hi hce hu hinf hz (kl := kl) (kc := kc) h0 h1 h2 h3 h5 h6
      refine wp_value (v := v) (w' := w') ?_ (hnext _ _ _ _ _ _ hi' (HLe.refl _) hle hr hk)
      unfold execOp; rw [ho]
      simp only [Sem.run_bind]
      rw [int_of hl, int_of hc, hrun]; rfl
    · exact hk.elim
  · -- binOp
    rename_i op t x y yt ho
    have hx := rep_ev he x
    have hy := rep_ev he y
    have guard0 : ∀ (w : World), op ≠ .eql → op ≠ .neq → (eqGuard op t x y (a.eval x) (a.eval y)).run P w = .ok () w := by
      intro w h1 h2
      unfold eqGuard
      cases op <;> first | exact absurd rfl h1 | exact absurd rfl h2 | simp
    unfold cmpK at hk
    have cmp : ∀ (neg : Bool), (op = bif neg then .neq else .eql) → eqTop P σ t (ev env x) (ev env y) (fun r => K (.bool (bif neg then !r else r)) σ) (purK P o env (K · σ)) → o.wp P a w next Q := by
      intro neg hop hk
      rcases eqTop_run hi hk hx hy x y with hk | ⟨r, hk, h1, h2, h3⟩
      · exact pur_sound hk hi he hnext
      · refine wp_value (v := .bool (bif neg then !r else r)) (w' := w) ?_ (hnext _ _ _ _ _ _ hi (HLe.refl _) (BLe.refl _) (.bool _) hk)
        unfold execOp; rw [ho]
        simp only [Sem.run_bind, h1, Result.andThen_ok]
        cases neg with
        | true => simp only [cond_true] at hop ⊢; subst hop; rw [h3]; rfl
        | false => simp only [cond_false] at hop ⊢; subst hop; rw [h2]; rfl
    split at hk
    · exact cmp false rfl hk
    · exact cmp true rfl hk
    rename_i n1 n2
    clear n1 n2 cmp
    unfold binK at hk
    split at hk
    · rename_i k p k' q hxe hye
      obtain ⟨rfl, hq, hk⟩ := hk
      rw [hxe] at hx; rw [hye] at hy
      refine wp_value (v := .int k (k.wrap (p.tdiv q))) (w' := w) ?_ (hnext _ _ _ _ _ _ hi (HLe.refl _) (BLe.refl _) (.int _ _) hk)
      unfold execOp; rw [ho]
      simp only [Sem.run_bind, guard0 w (by intro q; cases q) (by intro q; cases q), Result.andThen_ok]
      rw [int_of hx, int_of hy]
      simp [binOp, Op.intDiv, hq]
    · rename_i k p k' q hxe hye
      obtain ⟨rfl, hq, hk⟩ := hk
      rw [hxe] at hx; rw [hye] at hy
      refine wp_value (v := .int k (p.tmod q)) (w' := w) ?_ (hnext _ _ _ _ _ _ hi (HLe.refl _) (BLe.refl _) (.int _ _) hk)
      unfold execOp; rw [ho]
      simp only [Sem.run_bind, guard0 w (by intro q; cases q) (by intro q; cases q), Result.andThen_ok]
      rw [int_of hx, int_of hy]
      simp [binOp, Op.intDiv, hq]
    · rename_i k p k' q hxe hye
      obtain ⟨hq, hk⟩ := hk
      rw [hxe] at hx; rw [hye] at hy
      refine wp_value (v := .int k (k.wrap (p * 2 ^ (min q.toNat k.bits)))) (w' := w) ?_ (hnext _ _ _ _ _ _ hi (HLe.refl _) (BLe.refl _) (.int _ _) hk)
      unfold execOp; rw [ho]
      simp only [Sem.run_bind, guard0 w (by intro q; cases q) (by intro q; cases q), Result.andThen_ok]
      rw [int_of hx, int_of hy]
      have : ¬ q < 0 := by omega
      simp [binOp, Op.shift, this]
    · rename_i k p k' q hxe hye
      obtain ⟨hq, hk⟩ := hk
      rw [hxe] at hx; rw [hye] at hy
      refine wp_value (v := .int k (p.fdiv (2 ^ (min q.toNat k.bits)))) (w' := w) ?_ (hnext _ _ _ _ _ _ hi (HLe.refl _) (BLe.refl _) (.int _ _) hk)
      unfold execOp; rw [ho]
      simp only [Sem.run_bind, guard0 w (by intro q; cases q) (by intro q; cases q), Result.andThen_ok]
      rw [int_of hx, int_of hy]
      have : ¬ q < 0 := by omega
      simp [binOp, Op.shift, this]
    · rename_i p q hxe hye
      obtain ⟨hq, hk⟩ := hk
      rw [hxe] at hx; rw [hye] at hy
      have hxv : a.eval x = .string p := rep_toV rfl hx
      have hyv : a.eval y = .string q := rep_toV rfl hy
      refine wp_value (v := .string (p ++ q)) (w' := w) ?_ (hnext _ _ _ _ _ _ hi (HLe.refl _) (BLe.refl _) (.str _) hk)
      unfold execOp; rw [ho]
      simp only [Sem.run_bind, guard0 w (by intro q; cases q) (by intro q; cases q), Result.andThen_ok]
      rw [hxv, hyv]
      have : ¬ ((p.size + q.size : Nat) : Int) > IntKind.i64.max := by omega
      simp only [binOp, Op.stringOp]
      rw [if_neg this]; rfl
    · rename_i k p k' q hxe hye
      obtain ⟨rfl, hk⟩ := hk
      obtain ⟨r, hr, hk⟩ := optK_some hk
      rw [hxe] at hx; rw [hye] at hy
      have hxv : a.eval x = .float k p := rep_toV rfl hx
      have hyv : a.eval y = .float k q := rep_toV rfl hy
      refine wp_value (v := .float k r) (w' := w) ?_ (hnext _ _ _ _ _ _ hi (HLe.refl _) (BLe.refl _) (.flt _ _) hk)
      unfold execOp; rw [ho]
      simp only [Sem.run_bind, guard0 w (by intro q; cases q) (by intro q; cases q), Result.andThen_ok]
      rw [hxv, hyv]
      simp only [run_float_arith w _ _ k p q r hr, Result.andThen_ok, Sem.run_pure]
    · rename_i k p k' q hxe hye
      obtain ⟨rfl, hk⟩ := hk
      obtain ⟨r, hr, hk⟩ := optK_some hk
      rw [hxe] at hx; rw [hye] at hy
      have hxv : a.eval x = .float k p := rep_toV rfl hx
      have hyv : a.eval y = .float k q := rep_toV rfl hy
      refine wp_value (v := .float k r) (w' := w) ?_ (hnext _ _ _ _ _ _ hi (HLe.refl _) (BLe.refl _) (.flt _ _) hk)
      unfold execOp; rw [ho]
      simp only [Sem.run_bind, guard0 w (by intro q; cases q) (by intro q; cases q), Result.andThen_ok]
      rw [hxv, hyv]
      simp only [run_float_arith w _ _ k p q r hr, Result.andThen_ok, Sem.run_pure]
    · rename_i k p k' q hxe hye
      obtain ⟨rfl, hk⟩ := hk
      obtain ⟨r, hr, hk⟩ := optK_some hk
      rw [hxe] at hx; rw [hye] at hy
      have hxv : a.eval x = .float k p := rep_toV rfl hx
      have hyv : a.eval y = .float k q := rep_toV rfl hy
      refine wp_value (v := .float k r) (w' := w) ?_ (hnext _ _ _ _ _ _ hi (HLe.refl _) (BLe.refl _) (.flt _ _) hk)
      unfold execOp; rw [ho]
      simp only [Sem.run_bind, guard0 w (by intro q; cases q) (by intro q; cases q), Result.andThen_ok]
      rw [hxv, hyv]
      simp only [run_float_arith w _ _ k p q r hr, Result.andThen_ok, Sem.run_pure]
    · rename_i k p k' q hxe hye
      obtain ⟨rfl, hk⟩ := hk
      obtain ⟨r, hr, hk⟩ := optK_some hk
      rw [hxe] at hx; rw [hye] at hy
      have hxv : a.eval x = .float k p := rep_toV rfl hx
      have hyv : a.eval y = .float k q := rep_toV rfl hy
      refine wp_value (v := .float k r) (w' := w) ?_ (hnext _ _ _ _ _ _ hi (HLe.refl _) (BLe.refl _) (.flt _ _) hk)
      unfold execOp; rw [ho]
      simp only [Sem.run_bind, guard0 w (by intro q; cases q) (by intro q; cases q), Result.andThen_ok]
      rw [hxv, hyv]
      simp only [run_float_arith w _ _ k p q r hr, Result.andThen_ok, Sem.run_pure]
    · exact pur_sound hk hi he hnext
  · -- convert
    rename_i s t x ho
    unfold cvtK at hk
    cases hb : isSl (ev env x) with
    | false =>
      rw [hb] at hk
      simp only [cond_false] at hk
      split at hk
      · rename_i r hr0
        obtain ⟨v', w', h', hrun, hle, hr', hi'⟩ := s2b_run (P := P) hi (rep_ev he x) hr0
        refine wp_value (v := v') (w' := w') ?_ (hnext _ _ _ _ _ _ hi' hle (BLe.refl _) hr' hk)
        unfold execOp; rw [ho]
        simp only [Sem.run_bind, hrun, Result.andThen_ok, Sem.run_pure]
      · exact pur_sound hk hi he hnext
    | true =>
      rw [hb] at hk
      simp only [cond_true] at hk
      split at hk
      · rename_i e hs ht
        split at hk
        · rename_i hu
          obtain ⟨els, hels, hk⟩ := optK_some hk
          obtain ⟨bs, hbs, hk⟩ := optK_some hk
          refine wp_value (v := .string ⟨bs.toArray⟩) (w' := w) ?_ (hnext _ _ _ _ _ _ hi (HLe.refl _) (BLe.refl _) (.str _) hk)
          have := cvt_run hs ht hu hi (rep_ev he x) hels hbs
          unfold execOp; rw [ho]
          simp only [Sem.run_bind, this, Result.andThen_ok, Sem.run_pure]
        · exact hk.elim
      · exact hk.elim
  · -- makeInterface
    rename_i t x ho
    have hx := rep_ev he x
    split at hk
    · exact hk.elim
    · rename_i u hne hu
      refine wp_value (v := .iface t (a.eval x)) (w' := w) ?_ (hnext _ _ _ _ _ _ hi (HLe.refl _) (BLe.refl _) (.iface _ _ _ hx) hk)
      unfold execOp; rw [ho]
      simp only [Sem.run_bind, Instr.makeInterface, run_underlying hu, Result.andThen_ok]
      cases u <;> first | rfl | (exact absurd rfl (hne _))
    · exact hk.elim
  · -- nilCheck
    rename_i x ho
    have hx := rep_ev he x
    have go : ∀ d, ev env x = d → (∀ w, (execOp a.eval o).run P w = .ok (.value (a.eval x)) w) → K d σ → o.wp P a w next Q := fun d e hr hk =>
      wp_value (hr w) (hnext _ _ _ _ _ _ hi (HLe.refl _) (BLe.refl _) (e ▸ hx) hk)
    split at hk
    · rename_i id i j hev
      obtain ⟨po, hpo, hk⟩ := optK_some hk
      rw [hev] at hx
      obtain ⟨b, K', _, hv⟩ := pointer_of hi hpo hx
      exact go _ hev (fun w => by unfold execOp; rw [ho]; simp only [hv]; rfl) hk
    · rename_i cs hev
      rw [hev] at hx
      obtain ⟨ad, hv, _⟩ := pim_of hx
      exact go _ hev (fun w => by unfold execOp; rw [ho]; simp only [hv]; rfl) hk
    · rename_i f fs cs hev
      rw [hev] at hx
      obtain ⟨us, vs, hv⟩ : ∃ us vs, a.eval x = .func (.func f) us vs := by
        generalize a.eval x = xv at *
        cases hx with
        | func _ us vs _ _ hl hm hr hq => exact ⟨us, vs, rfl⟩
      exact go _ hev (fun w => by unfold execOp; rw [ho]; simp only [hv]; rfl) hk
    · rename_i t d hev
      rw [hev] at hx
      obtain ⟨v, hv⟩ : ∃ v, a.eval x = .iface t v := by
        generalize a.eval x = xv at *
        cases hx with
        | iface _ v _ r => exact ⟨v, rfl⟩
      exact go _ hev (fun w => by unfold execOp; rw [ho]; simp only [hv]; rfl) hk
    · exact hk.elim
  · -- typeAssert
    rename_i x xt t ok ho
    have hx := rep_ev he x
    have hex : execOp a.eval o = (do pure (.value (← Instr.typeAssert (a.eval x) xt t ok))) := by unfold execOp; rw [ho]
    have zero : ∀ (z : Value), (P.info? t).bind (·.zero) = some z → (zeroValue t).run P w = .ok z w := by
      intro z hz
      cases hinf : P.info? t with
      | none => rw [hinf] at hz; cases hz
      | some i => rw [hinf] at hz; simp only [Option.bind_some] at hz; simp only [zeroValue, Sem.run_bind, run_typeInfo w hinf, Result.andThen_ok, hz]; rfl
    have rep2 : ∀ (v : Value) (d : DV) (b : Bool), Rep h β v d → Rep h β (.tuple #[v, .bool b]) (.tup [d, .bool b]) := by
      intro v d b r
      refine .tup _ _ rfl fun i u e e1 e2 => ?_
      match i with
      | 0 => simp at e1 e2; subst e1; subst e2; exact r
      | 1 => simp at e1 e2; subst e1; subst e2; exact .bool b
      | i + 2 => simp at e1
    unfold assertK at hk
    split at hk
    · exact hk.elim
    · rename_i u t' d hne hu hev
      rw [hev] at hx
      obtain ⟨v, hv, r⟩ : ∃ v, a.eval x = .iface t' v ∧ Rep h β v d := by
        generalize a.eval x = xv at *
        cases hx with
        | iface _ v _ r => exact ⟨v, rfl, r⟩
      cases hb : Nat.beq t' t with
      | true =>
        have := Nat.eq_of_beq_eq_true hb; subst this
        rw [hb] at hk
        simp only [cond_true] at hk
        refine wp_value (v := if ok then .tuple #[v, .bool true] else v) (w' := w) ?_ (hnext _ _ _ _ _ _ hi (HLe.refl _) (BLe.refl _) ?_ hk)
        · rw [hex]
          simp only [Sem.run_bind, Instr.typeAssert, run_underlying hu, Result.andThen_ok, hv]
          cases u <;> first | (simp; done) | (exact absurd rfl (hne _))
        · cases ok with
          | true => exact rep2 _ _ _ r
          | false => exact r
      | false =>
        rw [hb] at hk
        simp only [cond_false] at hk
        cases ok with
        | false => exact hk.elim
        | true =>
          obtain ⟨z, hz, hk⟩ := optK_some hk
          have hne' : ¬ t' = t := fun e => by rw [e, Nat.beq_refl] at hb; cases hb
          refine wp_value (v := .tuple #[z, .bool false]) (w' := w) ?_ (hnext _ _ _ _ _ _ hi (HLe.refl _) (BLe.refl _) (rep2 _ _ _ (rep_ofV z)) hk)
          rw [hex]
          simp only [Sem.run_bind, Instr.typeAssert, run_underlying hu, Result.andThen_ok, hv]
          cases u <;> first | (simp [hne', zero z hz]; done) | (exact absurd rfl (hne _))
    · rename_i u hne hu hev
      rw [hev] at hx
      have hv : a.eval x = .nilIface := rep_toV rfl hx
      cases ok with
      | false => exact hk.elim
      | true =>
        obtain ⟨z, hz, hk⟩ := optK_some hk
        refine wp_value (v := .tuple #[z, .bool false]) (w' := w) ?_ (hnext _ _ _ _ _ _ hi (HLe.refl _) (BLe.refl _) (rep2 _ _ _ (rep_ofV z)) hk)
        rw [hex]
        simp only [Sem.run_bind, Instr.typeAssert, run_underlying hu, Result.andThen_ok, hv]
        cases u <;> first | (simp [zero z hz]; done) | (exact absurd rfl (hne _))
    · exact hk.elim
  · -- makeFunc
    rename_i fn fs cs ho
    refine wp_value (v := .func fn (fs.map a.eval) (cs.map a.eval)) (w' := w) ?_ (hnext _ _ _ _ _ _ hi (HLe.refl _) (BLe.refl _) (.func _ _ _ _ _ (RepVs.args he fs).1 (RepVs.args he cs).1 (RepVs.args he fs).2 (RepVs.args he cs).2) hk)
    unfold execOp; rw [ho]
    rfl
  · -- extract
    rename_i x i ho
    have hx := rep_ev he x
    split at hk
    · rename_i ds hev
      rw [hev] at hx
      obtain ⟨d, hd', hk⟩ := optK_some hk
      obtain ⟨vs, hv, hl, hr⟩ : ∃ vs, a.eval x = .tuple vs ∧ vs.size = ds.length ∧ ∀ (i : Nat) (v : Value) (d : DV), vs[i]? = some v → ds[i]? = some d → Rep h β v d := by
        generalize a.eval x = xv at *
        cases hx with
        | tup vs _ hl hr => exact ⟨vs, rfl, hl, hr⟩
      have hlt : i < vs.size := by rw [hl]; exact (List.getElem?_eq_some_iff.1 hd').1
      refine wp_value (v := vs[i]) (w' := w) ?_ (hnext _ _ _ _ _ _ hi (HLe.refl _) (BLe.refl _) (hr i _ _ (Array.getElem?_eq_getElem hlt) hd') hk)
      unfold execOp; rw [ho]
      simp [Instr.extract, hv, hlt]
    · exact hk.elim
  · -- lookup
    rename_i xt x i ok ho
    obtain ⟨v, d, hrun, hr, hk⟩ := lookK_sound (P := P) (K := (K · σ)) hk hi (rep_ev he x) (rep_ev he i)
    refine wp_value (v := v) (w' := w) ?_ (hnext _ _ _ _ _ _ hi (HLe.refl _) (BLe.refl _) hr hk)
    unfold execOp; rw [ho]
    simp only [Sem.run_bind, hrun]; rfl
  · -- mapUpdate
    rename_i t m k x ho
    unfold plainDet at hk
    split at hk
    case h_2 => exact hk.elim
    obtain ⟨w', σ', hrun, hi', hk⟩ := updK_sound (P := P) hk hi (rep_ev he m) (rep_ev he k) (rep_ev he x)
    refine wp_skip_ (w' := w') ?_ (hnext _ _ _ _ _ _ hi' (HLe.refl _) (BLe.refl _) (.junk _) hk)
    unfold execOp; rw [ho]
    simp only [Sem.run_bind, hrun]; rfl
  · -- insert
    rename_i t m k x ho
    unfold plainDet at hk
    split at hk
    case h_2 => exact hk.elim
    obtain ⟨w', σ', hrun, hi', hk⟩ := updK_sound (P := P) hk hi (rep_ev he m) (rep_ev he k) (rep_ev he x)
    refine wp_skip_ (w' := w') ?_ (hnext _ _ _ _ _ _ hi' (HLe.refl _) (BLe.refl _) (.junk _) hk)
    unfold execOp; rw [ho]
    simp only [Sem.run_bind, hrun]; rfl
  · -- makeMap
    rename_i t r ho
    unfold plainDet at hk
    split at hk
    case h_2 => exact hk.elim
    obtain ⟨v, w', β', d, σ', hrun, hle, hr, hi', hk⟩ := makeMK_sound (P := P) (rv := r.map a.eval) hk hi (fun e => by cases r <;> simp_all) (fun d e => by
      cases r with
      | none => simp at e
      | some x => simp at e; subst e; exact ⟨_, rfl, rep_ev he x⟩)
    refine wp_value (v := v) (w' := w') ?_ (hnext _ _ _ _ _ _ hi' (HLe.refl _) hle hr hk)
    unfold execOp; rw [ho]
    simp only [Sem.run_bind, hrun]; rfl
  · -- range
    rename_i xt x ho
    unfold plainDet at hk
    split at hk
    case h_2 => exact hk.elim
    obtain ⟨v, w', β', d, σ', hrun, hle, hr, hi', hk⟩ := rangeMK_sound (P := P) hk hi (rep_ev he x)
    refine wp_value (v := v) (w' := w') ?_ (hnext _ _ _ _ _ _ hi' (HLe.refl _) hle hr hk)
    unfold execOp; rw [ho]
    simp only [Sem.run_bind, hrun]; rfl
  · -- next
    rename_i it isS ho
    unfold plainDet at hk
    split at hk
    case h_2 => exact hk.elim
    obtain ⟨v, w', d, σ', hrun, hr, hi', hk⟩ := nextMK_sound (P := P) hk hi (rep_ev he it) o.type
    refine wp_value (v := v) (w' := w') ?_ (hnext _ _ _ _ _ _ hi' (HLe.refl _) (BLe.refl _) hr hk)
    unfold execOp; rw [ho]
    simp only [Sem.run_bind, hrun]; rfl
  · -- entry
    rename_i it ho
    unfold plainDet at hk
    split at hk
    case h_2 => exact hk.elim
    obtain ⟨v, d, hrun, hr, hk⟩ := entryMK_sound (P := P) hk hi (rep_ev he it)
    refine wp_value (v := v) (w' := w) ?_ (hnext _ _ _ _ _ _ hi (HLe.refl _) (BLe.refl _) hr hk)
    unfold execOp; rw [ho]
    simp only [Sem.run_bind, hrun]; rfl
  · rename_i c ho
    split at hk
    · rename_i f hc
      exact callD_sound (call_direct ho hc) hk hi (RepVs.args he _) hnext
    · rename_i hc
      split at hk
      · rename_i x t ha hty
        obtain ⟨consts, hrun⟩ := builtin_run (P := P) (a := a) (w := w) ho hc ha hty
        have hx := rep_ev he x
        split at hk
        · rename_i s hu hev
          rw [hev] at hx
          have hxv : a.eval x = .string s := rep_toV rfl hx
          refine wp_value (v := .int .i64 s.size) (w' := w) ?_ (hnext _ _ _ _ _ _ hi (HLe.refl _) (BLe.refl _) (.int _ _) hk)
          rw [hrun]
          simp [builtin, Builtin.len_, run_underlying hu, hxv, goInt]
        · rename_i e hu
          obtain ⟨m, hm, hk⟩ := optK_some hk
          obtain ⟨ad, c', hxv⟩ := lenS_sound hi hx hm
          refine wp_value (v := .int .i64 m) (w' := w) ?_ (hnext _ _ _ _ _ _ hi (HLe.refl _) (BLe.refl _) (.int _ _) hk)
          rw [hrun]
          simp [builtin, Builtin.len_, run_underlying hu, hxv, goInt]
        · rename_i kt et hu
          obtain ⟨es, hes, hk⟩ := optK_some hk
          have hlen : (Builtin.len_ #[t] o.type #[a.eval x]).run P w = .ok (.int .i64 (es.length / 2 : Nat)) w := by
            rcases ents_of hi hes hx with ⟨_, hv, rfl⟩ | ⟨id, po, b, mes, _, _, _, hv, _, _, _, hw, _, hre⟩
            · simp [Builtin.len_, run_underlying hu, hv, goInt]
            · have hn : es.length / 2 = mes.size := by rw [(repL_of hre).1]; simp
              rw [hn]
              simp [Builtin.len_, run_underlying hu, hv, goInt, Sem.run_bind, getObj_run (P := P) hw]
          refine wp_value (v := .int .i64 (es.length / 2 : Nat)) (w' := w) ?_ (hnext _ _ _ _ _ _ hi (HLe.refl _) (BLe.refl _) (.int _ _) hk)
          rw [hrun]
          simp [builtin, hlen]
        · exact hk.elim
      · exact hk.elim
    · rename_i hc
      split at hk
      · rename_i s x t u ha hty
        split at hk
        · rename_i e hu
          cases hb : Nat.beq t u with
          | false => rw [hb] at hk; exact hk.elim
          | true =>
            rw [hb] at hk
            have := Nat.eq_of_beq_eq_true hb
            subst this
            exact appK_sound ho hc ha hty hu hk hi he hnext
        · exact hk.elim
      · exact hk.elim
    · rename_i hc
      split at hk
      · rename_i x y t u ha hty
        split at hk
        · rename_i e hu
          unfold plainDet at hk
          split at hk
          case h_2 => exact hk.elim
          exact copyK_sound ho hc ha hty hu hk hi he hnext
        · exact hk.elim
      · exact hk.elim
    · rename_i hc
      split at hk
      · rename_i k x k' y hargs
        obtain ⟨xo, yo, hx, hex, hey⟩ := two_args hargs
        obtain ⟨consts, hrun⟩ := builtin_run (P := P) (a := a) (w := w) ho hc hx rfl
        have rx := rep_ev he xo
        have ry := rep_ev he yo
        rw [hex] at rx; rw [hey] at ry
        refine wp_value (w' := w) (v := .int k (if y < x then y else x)) ?_ (hnext _ _ _ _ _ _ hi (HLe.refl _) (BLe.refl _) (.int _ _) hk)
        rw [hrun]
        simp [builtin, Builtin.min_, int_of rx, int_of ry, Builtin.min2]
      · exact hk.elim
    · rename_i hc
      split at hk
      · rename_i k x k' y hargs
        obtain ⟨xo, yo, hx, hex, hey⟩ := two_args hargs
        obtain ⟨consts, hrun⟩ := builtin_run (P := P) (a := a) (w := w) ho hc hx rfl
        have rx := rep_ev he xo
        have ry := rep_ev he yo
        rw [hex] at rx; rw [hey] at ry
        refine wp_value (w' := w) (v := .int k (if y > x then y else x)) ?_ (hnext _ _ _ _ _ _ hi (HLe.refl _) (BLe.refl _) (.int _ _) hk)
        rw [hrun]
        simp [builtin, Builtin.max_, int_of rx, int_of ry, Builtin.max2]
      · exact hk.elim
    · exact hk.elim
    · obtain ⟨x, hx, hk⟩ := optK_some hk
      obtain ⟨f, ds⟩ := x
      unfold calleeD at hx
      split at hx
      · rename_i x hc
        split at hx
        · rename_i g fs cs hev
          injection hx with hx; injection hx with hx1 hx2; subst hx1; subst hx2
          have hrx := rep_ev he x
          rw [hev] at hrx
          obtain ⟨us, vs, hv, r1, r2⟩ : ∃ us vs, a.eval x = .func (.func g) us vs ∧ RepVs h β us fs ∧ RepVs h β vs cs := by
            generalize a.eval x = xv at *
            cases hrx with
            | func _ us vs _ _ hl hm hr hq => exact ⟨us, vs, rfl, ⟨hl, hr⟩, ⟨hm, hq⟩⟩
          exact callD_sound (call_value ho hc hv) hk hi ((r1.app (RepVs.args he _)).app r2) hnext
        · cases hx
      · rename_i x name hc
        split at hx
        · rename_i t d hev
          cases hm : methodD P t name with
          | none => rw [hm] at hx; cases hx
          | some g =>
          rw [hm] at hx
          injection hx with hx; injection hx with hx1 hx2; subst hx1; subst hx2
          have hrx := rep_ev he x
          rw [hev] at hrx
          obtain ⟨v, hv, r1⟩ : ∃ v, a.eval x = .iface t v ∧ Rep h β v d := by
            generalize a.eval x = xv at *
            cases hrx with
            | iface _ v _ r => exact ⟨v, rfl, r⟩
          have r2 : RepVs h β #[v] [d] := ⟨rfl, fun i u e e1 e2 => by
            cases i with
            | zero => simp at e1 e2; subst e1; subst e2; exact r1
            | succ i => simp at e1⟩
          exact callD_sound (call_invoke ho hc hv hm) hk hi (r2.app (RepVs.args he _)) hnext
        · cases hx
      · cases hx
  · exact pur_sound hk hi he hnext

theorem nil_run {o : Oper} {neg : Bool} {t e : TypeId} {x y : Operand} {yt : TypeId} (ho : o.op = .binOp (bif neg then .neq else .eql) t x y yt) (ht : P.underlying t = some (.slice e)) {σ : Objs} (hi : Inv C σ h β w)
    {id off len : Nat} (hu : Rep h β (a.eval x) (.ref id off len)) (hv : Rep h β (a.eval y) .nils) (hb : isObj σ id = true) : ∃ r : Bool, (execOp a.eval o).run P w = .ok (.value (.bool r)) w := by
  unfold isObj at hb
  split at hb
  case h_2 => cases hb
  rename_i po hpo
  have hve : a.eval y = .slice none 0 0 := by
    generalize a.eval y = v at *
    cases hv; rfl
  have fin : ∀ (u : Value) (r : Bool), a.eval x = u → (∀ op xo yo, (eqGuard op t xo yo u (.slice none 0 0)).run P w = .ok () w) → (∀ d, (Op.equalIn (d + 1) t u (.slice none 0 0)).run P w = .ok r w) →
      (binOp .eql t u (.slice none 0 0) = (do pure (.bool (← Op.equal t u (.slice none 0 0))))) → (binOp .neq t u (.slice none 0 0) = (do pure (.bool (!(← Op.equal t u (.slice none 0 0)))))) → ∃ r : Bool, (execOp a.eval o).run P w = .ok (.value (.bool r)) w := by
    intro u r hx h0 h1 h2 h3
    have heq : (Op.equal t u (.slice none 0 0)).run P w = .ok r w := h1 9999
    have e2 : (binOp .eql t u (.slice none 0 0)).run P w = .ok (.bool r) w := by rw [h2, Sem.run_bind, heq]; rfl
    have e3 : (binOp .neq t u (.slice none 0 0)).run P w = .ok (.bool (!r)) w := by rw [h3, Sem.run_bind, heq]; rfl
    refine ⟨bif neg then !r else r, ?_⟩
    unfold execOp; rw [ho]
    simp only [Sem.run_bind, hx, hve, h0, Result.andThen_ok]
    cases neg with
    | true => simp only [cond_true]; rw [e3]; rfl
    | false => simp only [cond_false]; rw [e2]; rfl
  generalize hxe : a.eval x = u at *
  cases hu with
  | refDead _ _ _ _ q => rcases hi.live _ po hpo with ⟨b, K, hbl⟩ | ⟨hbl, _⟩ <;> (rw [hbl] at q; cases q)
  | refNil _ q => exact fin _ true rfl (fun op xo yo => by cases op <;> simp [eqGuard]) (fun d => by simp [Op.equalIn, run_underlying ht]) rfl rfl
  | refAt _ _ _ cap o b' sz N K' t' q1 q2 q3 q4 => exact fin _ false rfl (fun op xo yo => by cases op <;> simp [eqGuard]) (fun d => by simp [Op.equalIn, run_underlying ht]) rfl rfl
theorem nil_runL {o : Oper} {neg : Bool} {t e : TypeId} {x y : Operand} {yt : TypeId} (ho : o.op = .binOp (bif neg then .neq else .eql) t x y yt) (ht : P.underlying t = some (.slice e))
    (hu : Rep h β (a.eval x) (.list [])) (hv : Rep h β (a.eval y) .nils) : ∃ r : Bool, (execOp a.eval o).run P w = .ok (.value (.bool r)) w := by
  have hve : a.eval y = .slice none 0 0 := by
    generalize a.eval y = v at *
    cases hv; rfl
  have fin : ∀ (u : Value) (r : Bool), a.eval x = u → (∀ op xo yo, (eqGuard op t xo yo u (.slice none 0 0)).run P w = .ok () w) → (∀ d, (Op.equalIn (d + 1) t u (.slice none 0 0)).run P w = .ok r w) →
      (binOp .eql t u (.slice none 0 0) = (do pure (.bool (← Op.equal t u (.slice none 0 0))))) → (binOp .neq t u (.slice none 0 0) = (do pure (.bool (!(← Op.equal t u (.slice none 0 0)))))) → ∃ r : Bool, (execOp a.eval o).run P w = .ok (.value (.bool r)) w := by
    intro u r hx h0 h1 h2 h3
    have heq : (Op.equal t u (.slice none 0 0)).run P w = .ok r w := h1 9999
    have e2 : (binOp .eql t u (.slice none 0 0)).run P w = .ok (.bool r) w := by rw [h2, Sem.run_bind, heq]; rfl
    have e3 : (binOp .neq t u (.slice none 0 0)).run P w = .ok (.bool (!r)) w := by rw [h3, Sem.run_bind, heq]; rfl
    refine ⟨bif neg then !r else r, ?_⟩
    unfold execOp; rw [ho]
    simp only [Sem.run_bind, hx, hve, h0, Result.andThen_ok]
    cases neg with
    | true => simp only [cond_true]; rw [e3]; rfl
    | false => simp only [cond_false]; rw [e2]; rfl
  generalize hxe : a.eval x = u at *
  cases hu with
  | list ad n c _ sz vs hn hnc hz hsz hc ho' hr =>
    simp at hn; subst hn
    cases ad with
    | none =>
      have := hz rfl
      subst this
      exact fin _ true rfl (fun op xo yo => by cases op <;> simp [eqGuard]) (fun d => by simp [Op.equalIn, run_underlying ht]) rfl rfl
    | some ad => exact fin _ false rfl (fun op xo yo => by cases op <;> simp [eqGuard]) (fun d => by simp [Op.equalIn, run_underlying ht]) rfl rfl
theorem nil_both {det : Det} {o : Oper} {env : Env} {σ : Objs} (hb : nilB P det o env σ = true) (hi : Inv C σ h β w) (he : ∀ t, Rep h β (a.tmps.getD t undef) (env t)) : ∃ r : Bool, (execOp a.eval o).run P w = .ok (.value (.bool r)) w := by
  unfold nilB at hb
  split at hb
  · rename_i t x y yt ho
    have hy := rep_ev he y
    have hx := rep_ev he x
    split at hb
    case h_2 => cases hb
    rename_i hye
    split at hb
    · rename_i e id off len ht hxe
      rw [hye] at hy; rw [hxe] at hx
      rw [Bool.and_eq_true] at hb
      exact nil_run (neg := false) ho ht hi hx hy hb.1
    · rename_i e ht hxe
      rw [hye] at hy; rw [hxe] at hx
      exact nil_runL (neg := false) ho ht hx hy
    · cases hb
  · rename_i t x y yt ho
    have hy := rep_ev he y
    have hx := rep_ev he x
    split at hb
    case h_2 => cases hb
    rename_i hye
    split at hb
    · rename_i e id off len ht hxe
      rw [hye] at hy; rw [hxe] at hx
      rw [Bool.and_eq_true] at hb
      exact nil_run (neg := true) ho ht hi hx hy hb.1
    · rename_i e ht hxe
      rw [hye] at hy; rw [hxe] at hx
      exact nil_runL (neg := true) ho ht hx hy
    · cases hb
  · cases hb
theorem pop_sound {det : Det} {o : Oper} {st : PSt} {K : PSt → Prop} (hk : pop P n det o st K) (hs : Sim C n st a w) {next : Act → World → Prop} {Q : Exit → Act → World → Prop}
    (hnext : ∀ st' a' w', Sim C n st' a' w' → K st' → next a' w') : o.wp P a w next Q := by
  obtain ⟨hd, hn, h, β, hi, he⟩ := hs
  cases hnb : nilB P det o st.env st.σ with
  | true =>
    rw [pop_both hnb] at hk
    obtain ⟨r, hr⟩ := nil_both hnb hi he
    refine wp_value hr ?_
    cases r with
    | true => exact put_sound hk.1 hd hn hi he (.bool _) hnext
    | false => exact put_sound hk.2 hd hn hi he (.bool _) hnext
  | false =>
  rw [pop_eq hnb] at hk
  exact vop_sound hk hi he fun v d σ' h' β' w' hi' hh hb hr hk' => put_sound (st := ⟨st.env, σ'⟩) hk' hd hn hi' (fun t => (he t).mono hh hb) hr hnext

/-- What is noted is so. -/
def GIs (G : Kn) (st : PSt) (a : Act) : Prop := ∀ t g, gl G t = some g → match g with
  | some b => st.env t = .bool b
  | none => a.tmps.getD t undef = undef

theorem putG_sound {G : Kn} {x : Option (Option Bool)} {dst : Option Tmp} {d : DV} {st : PSt} {K : PSt → Prop} {v : Value} {next : Act → World → Prop} (hk : putK n dst d st K)
    (hd : a.defers = C.ds) (hn : a.tmps.size = n) (hi : Inv C st.σ h β w) (he : ∀ t, Rep h β (a.tmps.getD t undef) (st.env t)) (hr : Rep h β v d) (hg : GIs G st a)
    (hx : ∀ t, dst = some t → match x with | some (some b) => d = .bool b | some none => v = undef | none => True)
    (hnext : ∀ st' a' w', Sim C n st' a' w' → GIs (noteK G dst x) st' a' → K st' → next a' w') : next (a.put dst v) w := by
  cases dst with
  | none => exact hnext st _ _ ⟨hd, hn, h, β, hi, he⟩ hg hk
  | some s =>
    rw [putK_eq] at hk; simp only at hk
    cases hb : Nat.blt s n with
    | false => rw [hb] at hk; exact hk.elim
    | true =>
      rw [hb] at hk
      have := blt_true hb
      refine hnext ⟨upd st.env s d, st.σ⟩ _ _ ⟨by simpa [Act.put] using hd, by simpa [Act.put] using hn, h, β, hi, env_put he (by omega) hr⟩ ?_ hk
      intro t g e
      simp only [noteK, gl] at e
      cases hts : Nat.beq t s with
      | true =>
        rw [hts] at e
        simp only [cond_true] at e
        have := Nat.eq_of_beq_eq_true hts
        subst this
        have hx := hx t rfl
        subst e
        cases g with
        | none => simp only at hx ⊢; rw [getD_put _ _ _ _ (by omega), if_pos rfl]; exact hx
        | some b => simp only at hx ⊢; simp [upd, hx]
      | false =>
        rw [hts] at e
        simp only [cond_false] at e
        have := hg t g e
        have hne : t ≠ s := by rintro rfl; simp at hts
        cases g with
        | none => simp only at this ⊢; rw [getD_put _ _ _ _ (by omega), if_neg hne]; exact this
        | some b => simp only at this ⊢; simp [upd, hts, this]

theorem knownOf_is {G : Kn} {st : PSt} (hg : GIs G st a) {x : Operand} {b : Bool} (h : knownOf G x = some (some b)) : ev st.env x = .bool b := by
  unfold knownOf at h
  split at h
  · injection h with h; injection h with h; subst h; rfl
  · rename_i t
    split at h
    · rename_i b' e
      injection h with h; injection h with h; subst h
      exact hg _ _ e
    · cases h
  · cases h

theorem knownOf_none {G : Kn} {x : Operand} : knownOf G x ≠ some none := by
  unfold knownOf
  split
  · simp
  · split <;> simp
  · simp

theorem knownPick_run {G : Kn} {st : PSt} {o : Oper} {x : Operand} (hg : GIs G st a) (he : ∃ h β, ∀ t, Rep h β (a.tmps.getD t undef) (st.env t)) (h : knownPick G o.op = some x) :
    (execOp a.eval o).run P w = .ok (.value (a.eval x)) w := by
  unfold knownPick at h
  split at h
  · rename_i c u v ho
    obtain ⟨h', β', he⟩ := he
    have hc : ∀ b, gl G c = some (some b) → a.tmps.getD c undef = .bool b := fun b e => by
      have h1 := he c
      rw [hg c _ e] at h1
      exact rep_toV rfl h1
    split at h
    · rename_i e
      injection h with h; subst h
      unfold execOp; rw [ho]
      simp only [Act.eval, hc _ e]
      rfl
    · rename_i e
      injection h with h; subst h
      unfold execOp; rw [ho]
      simp only [Act.eval, hc _ e]
      rfl
    · cases h
  · rename_i y ho; injection h with h; subst h; unfold execOp; rw [ho]; rfl
  · rename_i y ho; injection h with h; subst h; unfold execOp; rw [ho]; rfl
  · cases h

theorem rep_skip {det : Det} : Rep h β undef (skipD det) := by
  cases det with
  | none => exact .junk _
  | some M => exact .tup #[] [] rfl fun i v d e => by simp at e
theorem pops_sound {det : Det} {ops : Array Oper} {Q : Exit → Act → World → Prop} : ∀ (l : List Oper) (G : Kn) (st : PSt) (K : PSt → Prop) (a : Act) (w : World), pops P n det ops l G st K → Sim C n st a w → GIs G st a →
    (∀ st' a' w', Sim C n st' a' w' → K st' → Q .normal a' w') → wpList P ops Q l a w
  | [], G, st, K, a, w, hk, hs, _, hq => hq _ _ _ hs hk
  | o :: rest, G, st, K, a, w, hk, hs, hg, hq => by
    have go : ∀ G, GIs G st a → (match knownPick G o.op with
            | some x => putK n o.dst (ev st.env x) st fun st' => pops P n det ops rest (noteK G o.dst (knownOf G x)) st' K
            | none => pop P n det o st fun st' => pops P n det ops rest (noteK G o.dst none) st' K) → o.wp P a w (wpList P ops Q rest) Q := by
      intro G hg hp
      obtain ⟨hd, hn, h, β, hi, he⟩ := hs
      split at hp
      · rename_i x hx
        refine wp_value (w' := w) (knownPick_run hg ⟨h, β, he⟩ hx) ?_
        refine putG_sound (next := wpList P ops Q rest) hp hd hn hi he (rep_ev he x) hg (x := knownOf G x) ?_ fun st2 a2 w2 hs2 hg2 hk2 => pops_sound rest _ st2 K a2 w2 hk2 hs2 hg2 hq
        intro t _
        split
        · rename_i b e; exact knownOf_is hg e
        · rename_i e; exact absurd e knownOf_none
        · trivial
      · cases hnb : nilB P det o st.env st.σ with
        | true =>
          rw [pop_both hnb] at hp
          obtain ⟨r, hr⟩ := nil_both hnb hi he
          refine wp_value hr ?_
          cases r with
          | true => exact putG_sound (next := wpList P ops Q rest) (x := none) hp.1 hd hn hi he (.bool _) hg (fun t _ => trivial) fun st2 a2 w2 hs2 hg2 hk2 => pops_sound rest _ st2 K a2 w2 hk2 hs2 hg2 hq
          | false => exact putG_sound (next := wpList P ops Q rest) (x := none) hp.2 hd hn hi he (.bool _) hg (fun t _ => trivial) fun st2 a2 w2 hs2 hg2 hk2 => pops_sound rest _ st2 K a2 w2 hk2 hs2 hg2 hq
        | false =>
        rw [pop_eq hnb] at hp
        refine vop_sound hp hi he fun v d σ' h' β' w' hi' hh hb hr hk' => ?_
        exact putG_sound (st := ⟨st.env, σ'⟩) (next := wpList P ops Q rest) (x := none) (a := a) hk' hd hn hi' (fun t => (he t).mono hh hb) hr hg (fun t _ => trivial) fun st2 a2 w2 hs2 hg2 hk2 => pops_sound rest _ st2 K a2 w2 hk2 hs2 hg2 hq
    have off : ∀ G, GIs G st a → putK n o.dst (skipD det) st (fun st' => pops P n det ops rest (noteK G o.dst (some none)) st' K) → wpList P ops Q rest (a.put o.dst undef) w := by
      intro G hg hp
      obtain ⟨hd, hn, h, β, hi, he⟩ := hs
      exact putG_sound (next := wpList P ops Q rest) hp hd hn hi he rep_skip hg (x := some none) (fun t _ => rfl) fun st2 a2 w2 hs2 hg2 hk2 => pops_sound rest _ st2 K a2 w2 hk2 hs2 hg2 hq
    unfold wpList
    rw [pops_eq] at hk
    split at hk
    · rename_i hgd
      rw [if_pos (by simp [Region.wanted, hgd])]
      exact .inl (go G hg hk)
    · rename_i j want hgd
      split at hk
      · rename_i t ht
        have hval : ∀ b, st.env t = .bool b → Region.wanted o (yielded ops a.tmps) = (b == want) := by
          intro b hb
          obtain ⟨hd, hn, h, β, hi, he⟩ := hs
          have hv := he t
          rw [hb] at hv
          have hv' : a.tmps.getD t undef = .bool b := rep_toV rfl hv
          have hlt : t < a.tmps.size := by
            rcases Nat.lt_or_ge t a.tmps.size with hlt | hge
            · exact hlt
            · rw [Array.getD_eq_getD_getElem?, Array.getElem?_eq_none hge] at hv'; cases hv'
          simp only [Region.wanted, hgd, yielded, ht, Option.bind_some]
          rw [Array.getElem?_eq_getElem hlt]
          have : a.tmps[t] = .bool b := by simpa [Array.getD_eq_getD_getElem?, Array.getElem?_eq_getElem hlt] using hv'
          rw [this]; simp
        split at hk
        · rename_i b hb
          have hw := hval b (hg t _ hb)
          cases hbw : b == want with
          | true =>
            rw [hbw] at hk hw
            rw [if_pos hw]
            exact .inl (go G hg hk)
          | false =>
            rw [hbw] at hk hw
            rw [if_neg (by simp [hw])]
            exact off G hg hk
        · rename_i hb
          have hu : a.tmps.getD t undef = undef := hg t _ hb
          have hw : Region.wanted o (yielded ops a.tmps) = false := by
            simp only [Region.wanted, hgd, yielded, ht, Option.bind_some]
            cases hx : a.tmps[t]? with
            | none => rfl
            | some v =>
              rw [Array.getD_eq_getD_getElem?, hx] at hu
              simp only [Option.getD_some] at hu
              subst hu
              rfl
          rw [if_neg (by simp [hw])]
          exact off G hg hk
        · split at hk
          · rename_i b hb
            have hw := hval b hb
            have hcons : ∀ c, b = c → GIs ((t, some (some c)) :: G) st a := by
              intro c hc s g e
              simp only [gl] at e
              cases hts : Nat.beq s t with
              | true =>
                rw [hts] at e
                simp only [cond_true] at e
                injection e with e; subst e
                have := Nat.eq_of_beq_eq_true hts
                subst this
                rw [← hc]; exact hb
              | false => rw [hts] at e; exact hg s g e
            by_cases hbw : b = want
            · rw [if_pos (by simp [hw, hbw])]
              exact .inl (go _ (hcons _ hbw) (hk.1 hbw))
            · have hbn : b = !want := by cases b <;> cases want <;> simp_all
              rw [if_neg (by simp [hw, hbw])]
              exact off _ (hcons _ hbn) (hk.2 hbn)
          · exact hk.elim
      · exact hk.elim

theorem pops_start {det : Det} {ops : Array Oper} {Q : Exit → Act → World → Prop} {st : PSt} {K : PSt → Prop} (hk : pops P n det ops ops.toList [] st K) (hs : Sim C n st a w)
    (hq : ∀ st' a' w', Sim C n st' a' w' → K st' → Q .normal a' w') : wpList P ops Q ops.toList a w :=
  pops_sound _ [] st K a w hk hs (fun t g e => by cases e) hq

end Go.Pv
