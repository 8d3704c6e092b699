/- The evaluator's words on cells are right. -/
import Derived.Test.YtomeoihdhkmamaaDoorZxB
set_option linter.unusedVariables false
set_option linter.unusedSimpArgs false
namespace Go.X

theorem R.wd1 {ρ : Ren} {v : V} {x : Value} (h : R ρ v x) : wd v = 1 := by cases h <;> rfl

theorem flat_len {α : Type} (s : Nat) (g : Nat → List α) : ∀ (n : Nat), (∀ k, k < n → (g k).length = s) → ((List.range n).flatMap g).length = n * s
  | 0, _ => by simp
  | n + 1, h => by
    have ih := flat_len s g n (fun k hk => h k (by omega))
    rw [List.range_succ, List.flatMap_append, List.length_append, ih]
    simp [h n (by omega), Nat.succ_mul]

theorem C.len {ρ : Ren} : ∀ {vs : List V} {xs : List Value}, C ρ vs xs → xs.length = wds vs
  | _, _, .nil => rfl
  | _, _, .one v x vs xs h h1 t => by simp only [List.length_cons, wds_nil, wds_cons, h.wd1, t.len]; omega
  | _, _, .unks n us vs xs hn h1 t => by simp only [List.length_append, wds_nil, wds_cons, wd, hn, t.len]
  | _, _, .arr n s f g vs xs h hl t => by simp only [List.length_append, wds_nil, wds_cons, wd, t.len, flat_len s g n hl]

theorem C.one_of {ρ : Ren} : ∀ {vs : List V} {xs : List Value}, C ρ vs xs → ∀ x ∈ xs, x.oneCell' = true
  | _, _, .nil => by simp
  | _, _, .one v x vs xs h h1 t => by
    intro y hy
    rcases List.mem_cons.1 hy with rfl | hy
    · exact h1
    · exact t.one_of y hy
  | _, _, .unks n us vs xs hn h1 t => by
    intro y hy
    rcases List.mem_append.1 hy with hy | hy
    · exact h1 y hy
    · exact t.one_of y hy
  | _, _, .arr n s f g vs xs h hl t => by
    intro y hy
    rcases List.mem_append.1 hy with hy | hy
    · obtain ⟨k, hk, hy⟩ := List.mem_flatMap.1 hy
      exact (h k (List.mem_range.1 hk)).one_of y hy
    · exact t.one_of y hy

/-- The head of cells, and the rest. -/
theorem C.uncons {ρ : Ren} {v : V} {vs : List V} {xs : List Value} (h : C ρ (v :: vs) xs) : ∃ ys zs, xs = ys ++ zs ∧ ys.length = wd v ∧ C ρ [v] ys ∧ C ρ vs zs := by
  cases h with
  | one v x vs xs h h1 t => exact ⟨[x], xs, rfl, by simp [h.wd1], .one v x [] [] h h1 .nil, t⟩
  | unks n us vs xs hn h1 t => exact ⟨us, xs, rfl, hn, by simpa using C.unks n us [] [] hn h1 .nil, t⟩
  | arr n s f g vs xs h hl t => exact ⟨_, xs, rfl, flat_len s g n hl, by simpa using C.arr n s f g [] [] h hl .nil, t⟩

theorem C.append {ρ : Ren} : ∀ {vs : List V} {xs : List Value} {us : List V} {ys : List Value}, C ρ vs xs → C ρ us ys → C ρ (vs ++ us) (xs ++ ys)
  | _, _, _, _, .nil, h' => h'
  | _, _, _, _, .one v x vs xs h h1 t, h' => .one v x _ _ h h1 (t.append h')
  | _, _, _, _, .unks n us vs xs hn h1 t, h' => by rw [List.append_assoc]; exact .unks n us _ _ hn h1 (t.append h')
  | _, _, _, _, .arr n s f g vs xs h hl t, h' => by rw [List.append_assoc]; exact .arr n s f g _ _ h hl (t.append h')

theorem C.cons {ρ : Ren} {v : V} {vs : List V} {ys zs : List Value} (h : C ρ [v] ys) (t : C ρ vs zs) : C ρ (v :: vs) (ys ++ zs) := h.append t

theorem ble_le {a b : Nat} (h : Nat.ble a b = true) : a ≤ b := Nat.le_of_ble_eq_true h
theorem ble_gt {a b : Nat} (h : Nat.ble a b = false) : b < a := by
  rcases Nat.lt_or_ge b a with h' | h'
  · exact h'
  · rw [Nat.ble_eq_true_of_le h'] at h; cases h

theorem cut_spec {ρ : Ren} : ∀ {vs : List V} {o : Nat} {l r : List V} {xs : List Value}, cut vs o = some (l, r) → C ρ vs xs →
    ∃ ys zs, xs = ys ++ zs ∧ ys.length = o ∧ C ρ l ys ∧ C ρ r zs ∧ vs = l ++ r
  | vs, 0, l, r, xs, h, hc => by
    simp only [cut_zero, cut_nil, cut_cons, Option.some.injEq, Prod.mk.injEq] at h
    obtain ⟨rfl, rfl⟩ := h
    exact ⟨[], xs, rfl, rfl, .nil, hc, rfl⟩
  | [], o + 1, l, r, xs, h, hc => by simp [cut_zero, cut_nil, cut_cons] at h
  | v :: vs, o + 1, l, r, xs, h, hc => by
    rw [cut_cons] at h
    cases hb : Nat.ble (wd v) (o + 1) with
    | false => rw [hb] at h; simp at h
    | true =>
      rw [hb] at h
      simp only [cond_true] at h
      split at h
      · rename_i l' r' h'
        simp only [Option.some.injEq, Prod.mk.injEq] at h
        obtain ⟨rfl, rfl⟩ := h
        obtain ⟨ys, zs, rfl, hl, h1, h2⟩ := hc.uncons
        obtain ⟨as, bs, rfl, hl', h3, h4, h5⟩ := cut_spec h' h2
        refine ⟨ys ++ as, bs, by rw [List.append_assoc], ?_, h1.cons h3, h4, by rw [h5]; rfl⟩
        have := ble_le hb
        rw [List.length_append, hl, hl']
        omega
      · cases h

theorem mid_spec {ρ : Ren} {vs : List V} {o sz : Nat} {m : List V} {xs : List Value} (h : mid vs o sz = some m) (hc : C ρ vs xs) :
    ∃ ys ms zs, xs = ys ++ (ms ++ zs) ∧ ys.length = o ∧ ms.length = sz ∧ C ρ m ms := by
  unfold mid at h
  split at h
  · rename_i l r h1
    split at h
    · rename_i m' r' h2
      simp only [Option.some.injEq] at h
      subst h
      obtain ⟨ys, zs, rfl, hl, _, hr, _⟩ := cut_spec h1 hc
      obtain ⟨as, bs, rfl, hl', h3, _, _⟩ := cut_spec h2 hr
      exact ⟨ys, as, bs, rfl, hl, hl', h3⟩
    · cases h
  · cases h

theorem put_spec {ρ : Ren} {vs new : List V} {o sz : Nat} {m : List V} {xs ns : List Value} (h : put vs o sz new = some m) (hc : C ρ vs xs) (hn : C ρ new ns) (hl : ns.length = sz) :
    ∃ ys ms zs, xs = ys ++ (ms ++ zs) ∧ ys.length = o ∧ ms.length = sz ∧ C ρ m (ys ++ (ns ++ zs)) := by
  unfold put at h
  split at h
  · rename_i l r h1
    split at h
    · rename_i m' r' h2
      simp only [Option.some.injEq] at h
      subst h
      obtain ⟨ys, zs, rfl, hl, hl1, hr, _⟩ := cut_spec h1 hc
      obtain ⟨as, bs, rfl, hl', h3, h4, _⟩ := cut_spec h2 hr
      exact ⟨ys, as, bs, rfl, hl, hl', hl1.append (hn.append h4)⟩
    · cases h
  · cases h

/-- One element out of a run. -/
theorem flat_split {α : Type} (s : Nat) (g : Nat → List α) : ∀ (n : Nat), (∀ k, k < n → (g k).length = s) → ∀ i, i < n →
    ∃ as bs, (List.range n).flatMap g = as ++ (g i ++ bs) ∧ as.length = i * s ∧ ∀ g' : Nat → List α, (∀ k, k < n → k ≠ i → g' k = g k) → (List.range n).flatMap g' = as ++ (g' i ++ bs)
  | 0, _, i, hi => by omega
  | n + 1, h, i, hi => by
    rw [List.range_succ, List.flatMap_append]
    simp only [List.flatMap_cons, List.flatMap_nil, List.append_nil]
    by_cases hin : i = n
    · subst hin
      refine ⟨(List.range i).flatMap g, [], by simp, flat_len s g i (fun k hk => h k (by omega)), fun g' hg => ?_⟩
      rw [List.flatMap_append]
      simp only [List.flatMap_cons, List.flatMap_nil, List.append_nil]
      congr 1
      have : ∀ (l : List Nat), (∀ k ∈ l, k < i) → l.flatMap g' = l.flatMap g := by
        intro l
        induction l with
        | nil => intro _; rfl
        | cons a l ih => intro hl; rw [List.flatMap_cons, List.flatMap_cons, ih (fun k hk => hl k (by simp [hk])), hg a (by have := hl a (by simp); omega) (by have := hl a (by simp); omega)]
      exact this _ (fun k hk => List.mem_range.1 hk)
    · obtain ⟨as, bs, h1, h2, h3⟩ := flat_split s g n (fun k hk => h k (by omega)) i (by omega)
      refine ⟨as, bs ++ g n, by rw [h1]; simp, h2, fun g' hg => ?_⟩
      rw [List.flatMap_append, h3 g' (fun k hk hki => hg k (by omega) hki)]
      simp only [List.flatMap_cons, List.flatMap_nil, List.append_nil, List.append_assoc]
      rw [hg n (by omega) (by omega)]

theorem C.arr_inv {ρ : Ren} {n s : Nat} {f : Nat → List V} {vs : List V} {xs : List Value} (h : C ρ (.arr n s f :: vs) xs) :
    ∃ g zs, xs = (List.range n).flatMap g ++ zs ∧ (∀ k, k < n → C ρ (f k) (g k)) ∧ (∀ k, k < n → (g k).length = s) ∧ C ρ vs zs := by
  cases h with
  | one v x vs xs h h1 t => cases h
  | arr n s f g vs xs h hl t => exact ⟨g, xs, rfl, h, hl, t⟩

theorem ldIn_spec {ρ : Ren} : ∀ {vs : List V} {o sz : Nat} {m : List V} {xs : List Value}, ldIn vs o sz = some m → C ρ vs xs →
    ∃ ys ms zs, xs = ys ++ (ms ++ zs) ∧ ys.length = o ∧ ms.length = sz ∧ C ρ m ms
  | [], o, sz, m, xs, h, hc => by simp [ldIn] at h
  | v :: vs, o, sz, m, xs, h, hc => by
    unfold ldIn at h
    split at h
    · rename_i n s f
      cases hb : Nat.ble (n * s) o with
      | true =>
        simp only [hb, cond_true] at h
        obtain ⟨ys, zs, rfl, hl, h1, h2⟩ := hc.uncons
        obtain ⟨as, ms, bs, rfl, hl', h3, h4⟩ := ldIn_spec h h2
        refine ⟨ys ++ as, ms, bs, by rw [List.append_assoc], ?_, h3, h4⟩
        have := ble_le hb
        rw [List.length_append, hl, hl']
        simp only [wd]
        omega
      | false =>
        simp only [hb, cond_false] at h
        have hlt := ble_gt hb
        obtain ⟨g, zs, rfl, hg, hgl, ht⟩ := hc.arr_inv
        have hs : 0 < s := by rcases Nat.eq_zero_or_pos s with h0 | h0; · subst h0; simp at hlt
                              · exact h0
        have hi : o / s < n := (Nat.div_lt_iff_lt_mul hs).2 hlt
        obtain ⟨as, bs, e1, e2, _⟩ := flat_split s g n hgl (o / s) hi
        obtain ⟨ys, ms, cs, e3, e4, e5, e6⟩ := mid_spec h (hg _ hi)
        refine ⟨as ++ ys, ms, cs ++ bs ++ zs, by rw [e1, e3]; simp, ?_, e5, e6⟩
        rw [List.length_append, e2, e4, Nat.mul_comm]
        exact Nat.div_add_mod o s
    · cases hb : Nat.ble (wd v) o with
      | true =>
        simp only [hb, cond_true] at h
        obtain ⟨ys, zs, rfl, hl, h1, h2⟩ := hc.uncons
        obtain ⟨as, ms, bs, rfl, hl', h3, h4⟩ := ldIn_spec h h2
        refine ⟨ys ++ as, ms, bs, by rw [List.append_assoc], ?_, h3, h4⟩
        have := ble_le hb
        rw [List.length_append, hl, hl']
        omega
      | false => simp only [hb, cond_false] at h; cases h

theorem ldC_spec {ρ : Ren} {vs : List V} {o sz : Nat} {m : List V} {xs : List Value} (h : ldC vs o sz = some m) (hc : C ρ vs xs) :
    ∃ ys ms zs, xs = ys ++ (ms ++ zs) ∧ ys.length = o ∧ ms.length = sz ∧ C ρ m ms := by
  unfold ldC at h
  split at h
  · rename_i m' h'
    simp only [Option.some.injEq] at h
    subst h
    exact mid_spec h' hc
  · exact ldIn_spec h hc

theorem findArr_spec {ρ : Ren} : ∀ {vs : List V} {o s n : Nat} {f : Nat → List V} {r : Nat} {xs : List Value}, findArr vs o s = some (n, f, r) → C ρ vs xs →
    ∃ ys g zs, xs = ys ++ ((List.range n).flatMap g ++ zs) ∧ ys.length + r = o ∧ (∀ k, k < n → C ρ (f k) (g k)) ∧ (∀ k, k < n → (g k).length = s) ∧
      ∀ f' vs', setArr f' vs o s = some vs' → ∀ g' : Nat → List Value, (∀ k, k < n → C ρ (f' k) (g' k)) → (∀ k, k < n → (g' k).length = s) → C ρ vs' (ys ++ ((List.range n).flatMap g' ++ zs))
  | [], o, s, n, f, r, xs, h, hc => by simp [findArr] at h
  | v :: vs, o, s, n, f, r, xs, h, hc => by
    unfold findArr at h
    split at h
    · rename_i n' s' f'
      cases hb : (Nat.beq s' s && Nat.blt o s) with
      | true =>
        simp only [hb, cond_true, Option.some.injEq, Prod.mk.injEq] at h
        obtain ⟨rfl, rfl, rfl⟩ := h
        obtain ⟨g, zs, rfl, hg, hgl, ht⟩ := hc.arr_inv
        have he : s' = s := Nat.eq_of_beq_eq_true (by simp only [Bool.and_eq_true] at hb; exact hb.1)
        subst he
        refine ⟨[], g, zs, rfl, by simp, hg, hgl, fun f2 vs' h2 g' hg' hgl' => ?_⟩
        unfold setArr at h2
        simp only [hb, cond_true, Option.some.injEq] at h2
        subst h2
        exact .arr _ _ _ _ _ _ hg' hgl' ht
      | false =>
        simp only [hb, cond_false] at h
        cases hb2 : Nat.ble (n' * s') o with
        | false => simp only [hb2, cond_false] at h; cases h
        | true =>
          simp only [hb2, cond_true] at h
          obtain ⟨ys, zs, rfl, hl, h1, h2⟩ := hc.uncons
          obtain ⟨as, g, bs, rfl, hl', h3, h4, h5⟩ := findArr_spec h h2
          refine ⟨ys ++ as, g, bs, by rw [List.append_assoc], ?_, h3, h4, fun f2 vs' h6 g' hg' hgl' => ?_⟩
          · have := ble_le hb2
            rw [List.length_append, hl]
            simp only [wd]
            omega
          · unfold setArr at h6
            simp only [hb, hb2, cond_true, cond_false, Option.map_eq_some_iff] at h6
            obtain ⟨w, h6, rfl⟩ := h6
            rw [List.append_assoc]
            exact h1.cons (h5 _ _ h6 g' hg' hgl')
    · rename_i hna
      cases hb2 : Nat.ble (wd v) o with
      | false => simp only [hb2, cond_false] at h; cases h
      | true =>
        simp only [hb2, cond_true] at h
        obtain ⟨ys, zs, rfl, hl, h1, h2⟩ := hc.uncons
        obtain ⟨as, g, bs, rfl, hl', h3, h4, h5⟩ := findArr_spec h h2
        refine ⟨ys ++ as, g, bs, by rw [List.append_assoc], ?_, h3, h4, fun f2 vs' h6 g' hg' hgl' => ?_⟩
        · have := ble_le hb2
          rw [List.length_append, hl]
          omega
        · unfold setArr at h6
          split at h6
          · rename_i n' s' f' 
            exact (hna _ _ _ rfl).elim
          · simp only [hb2, cond_true, Option.map_eq_some_iff] at h6
            obtain ⟨w, h6, rfl⟩ := h6
            rw [List.append_assoc]
            exact h1.cons (h5 _ _ h6 g' hg' hgl')

theorem chainT_inv {α : Type} {g : Nat → T α} {i : Int} {v : α} : ∀ (d k : Nat), Leads (chainT g i k d) v → ∃ m : Nat, i = m ∧ Leads (g m) v
  | 0, k, h => h.fail_inv.elim
  | d + 1, k, h => by
    have h : Leads (.ite (decide (i = k)) (g k) (chainT g i (k + 1) d)) v := h
    rcases h.ite_inv with ⟨hc, h⟩ | ⟨_, h⟩
    · exact ⟨k, of_decide_eq_true hc, h⟩
    · exact chainT_inv d (k + 1) h

theorem ldA_spec {ρ : Ren} {vs : List V} {a : A} {sz : Nat} {m : List V} {xs : List Value} (h : Leads (ldA vs a sz) m) (hc : C ρ vs xs) :
    ∃ ys ms zs, xs = ys ++ (ms ++ zs) ∧ ys.length = a.o + a.i * a.s ∧ ms.length = sz ∧ C ρ m ms := by
  unfold ldA at h
  split at h
  · rename_i hs
    obtain ⟨ys, ms, zs, h1, h2, h3, h4⟩ := ldC_spec h.opt_inv hc
    exact ⟨ys, ms, zs, h1, by rw [h2, hs]; simp, h3, h4⟩
  · rename_i s hs
    split at h
    · rename_i n f r h1
      obtain ⟨hi, h2⟩ := h.need_inv
      obtain ⟨ys, g, zs, rfl, hl, hg, hgl, _⟩ := findArr_spec h1 hc
      obtain ⟨as, bs, e1, e2, _⟩ := flat_split (s + 1) g n hgl a.i hi
      obtain ⟨cs, ms, ds, e3, e4, e5, e6⟩ := mid_spec h2.opt_inv (hg _ hi)
      refine ⟨ys ++ as ++ cs, ms, ds ++ bs ++ zs, by rw [e1, e3]; simp, ?_, e5, e6⟩
      rw [List.length_append, List.length_append, e2, e4, hs]
      simp only [Nat.succ_eq_add_one]
      omega
    · obtain ⟨m, hm, h⟩ := chainT_inv _ _ h
      have hm : a.i = m := by omega
      obtain ⟨ys, ms, zs, h1, h2, h3, h4⟩ := ldC_spec h.opt_inv hc
      exact ⟨ys, ms, zs, h1, by rw [h2, hs, hm], h3, h4⟩

theorem beq_eq {a b : Nat} (h : Nat.beq a b = true) : a = b := Nat.eq_of_beq_eq_true h

theorem R.bif {ρ : Ren} {b : Bool} {v : V} {x : Value} (h : b = true → R ρ v x) : R ρ (bif b then v else .unk) x := by
  cases b with
  | true => exact h rfl
  | false => exact .unk _

theorem R.asSptrT {ρ : Ren} {x : Value} (h : R ρ .nil x) (a : A) : R ρ (.sptr true a) x := by
  cases h; exact R.sptr true a 0 (by simp)
theorem R.asSptrF {ρ : Ren} {x : Value} {a : A} (h : R ρ (.ptr a) x) : R ρ (.sptr false a) x := by
  cases h with | ptr a b hb => exact R.sptr false a b (fun _ => hb)
theorem R.asInt {ρ : Ren} {x : Value} {k : IntKind} {n : Int} (h : R ρ (.int k n) x) : R ρ (.sint k n) x := by
  cases h; exact .sint _ _

theorem same_place {a b : A} (h : (Nat.beq a.id b.id && (Nat.beq a.o b.o && Nat.beq a.s b.s)) = true) : a.id = b.id ∧ a.o = b.o ∧ a.s = b.s := by
  simp only [Bool.and_eq_true] at h
  exact ⟨beq_eq h.1, beq_eq h.2.1, beq_eq h.2.2⟩

theorem sel_true {ρ : Ren} {v u : V} {x : Value} (h : R ρ v x) : R ρ (V.sel true v u) x := by
  unfold V.sel
  split
  all_goals first
    | exact .unk _
    | exact h
    | exact h.asInt
    | exact .bif fun _ => h
    | exact .bif fun _ => h.asInt
    | exact h.asSptrT _
    | exact h.asSptrF
    | exact .bif fun _ => h.asSptrF
    | (cases h; simp only [cond_true]; constructor; done)

theorem sel_false {ρ : Ren} {v u : V} {x : Value} (h : R ρ u x) : R ρ (V.sel false v u) x := by
  unfold V.sel
  split
  all_goals first
    | exact .unk _
    | exact h
    | exact h.asInt
    | (refine .bif fun hk => ?_; have hk := of_decide_eq_true hk; subst hk; first | exact h | exact h.asInt)
    | exact h.asSptrT _
    | exact h.asSptrF
    | (refine .bif fun hk => ?_; obtain ⟨h1, h2, h3⟩ := same_place hk; simp only [cond_false]; rw [h1, h2, h3]; first | exact h | exact h.asSptrF)
    | (cases h; simp only [cond_false]; constructor; done)

theorem selL_true {ρ : Ren} : ∀ {vs us l : List V} {xs : List Value}, selL true vs us = some l → C ρ vs xs → C ρ l xs
  | [], [], l, xs, h, hc => by simp only [selL, Option.some.injEq] at h; subst h; exact hc
  | [], u :: us, l, xs, h, hc => by simp [selL] at h
  | v :: vs, [], l, xs, h, hc => by simp [selL] at h
  | v :: vs, u :: us, l, xs, h, hc => by
    unfold selL at h
    split at h
    · cases h
    · cases h
    · cases h
    · cases h
    · rename_i h1 h2 h3 h4
      split at h
      · rename_i l' h'
        simp only [Option.some.injEq] at h
        subst h
        cases hc with
        | one v x vs xs hv h1 t => exact .one _ _ _ _ (sel_true hv) h1 (selL_true h' t)
        | unks n us' vs xs hn h1 t => first | exact (h1 _ rfl).elim | exact (h2 _ rfl).elim | exact (h3 _ rfl).elim | exact (h4 _ rfl).elim | exact (h1 _ _ _ rfl).elim | exact (h2 _ _ _ rfl).elim | exact (h3 _ _ _ rfl).elim | exact (h4 _ _ _ rfl).elim
        | arr n s f g vs xs hh hl t => first | exact (h1 _ rfl).elim | exact (h2 _ rfl).elim | exact (h3 _ rfl).elim | exact (h4 _ rfl).elim | exact (h1 _ _ _ rfl).elim | exact (h2 _ _ _ rfl).elim | exact (h3 _ _ _ rfl).elim | exact (h4 _ _ _ rfl).elim
      · cases h

theorem selL_false {ρ : Ren} : ∀ {vs us l : List V} {xs : List Value}, selL false vs us = some l → C ρ us xs → C ρ l xs
  | [], [], l, xs, h, hc => by simp only [selL, Option.some.injEq] at h; subst h; exact hc
  | [], u :: us, l, xs, h, hc => by simp [selL] at h
  | v :: vs, [], l, xs, h, hc => by simp [selL] at h
  | v :: vs, u :: us, l, xs, h, hc => by
    unfold selL at h
    split at h
    · cases h
    · cases h
    · cases h
    · cases h
    · rename_i h1 h2 h3 h4
      split at h
      · rename_i l' h'
        simp only [Option.some.injEq] at h
        subst h
        cases hc with
        | one v x vs xs hv h1 t => exact .one _ _ _ _ (sel_false hv) h1 (selL_false h' t)
        | unks n us' vs xs hn h1 t => first | exact (h1 _ rfl).elim | exact (h2 _ rfl).elim | exact (h3 _ rfl).elim | exact (h4 _ rfl).elim | exact (h1 _ _ _ rfl).elim | exact (h2 _ _ _ rfl).elim | exact (h3 _ _ _ rfl).elim | exact (h4 _ _ _ rfl).elim
        | arr n s f g vs xs hh hl t => first | exact (h1 _ rfl).elim | exact (h2 _ rfl).elim | exact (h3 _ rfl).elim | exact (h4 _ rfl).elim | exact (h1 _ _ _ rfl).elim | exact (h2 _ _ _ rfl).elim | exact (h3 _ _ _ rfl).elim | exact (h4 _ _ _ rfl).elim
      · cases h

/-- A run in which one element is another one. -/
theorem upd_spec {ρ : Ren} {s n : Nat} {f : Nat → List V} {i : Nat} {e : List V} {g : Nat → List Value} {es : List Value}
    (hg : ∀ k, k < n → C ρ (f k) (g k)) (hl : ∀ k, k < n → (g k).length = s) (he : C ρ e es) (hes : es.length = s) :
    ∀ k, k < n → C ρ (upd s f i e k) (if k = i then es else g k) := by
  intro k hk
  unfold upd
  by_cases hki : k = i
  · rw [if_pos hki]
    split
    · rename_i l h
      rw [decide_eq_true hki] at h
      exact selL_true h he
    · have := C.unks (ρ := ρ) s es [] [] hes he.one_of .nil
      simpa using this
  · rw [if_neg hki]
    split
    · rename_i l h
      rw [decide_eq_false hki] at h
      exact selL_false h (hg k hk)
    · have := C.unks (ρ := ρ) s (g k) [] [] (hl k hk) (hg k hk).one_of .nil
      simpa using this

theorem upd_len {s n : Nat} {i : Nat} {g : Nat → List Value} {es : List Value} (hl : ∀ k, k < n → (g k).length = s) (hes : es.length = s) :
    ∀ k, k < n → (if k = i then es else g k).length = s := by
  intro k hk
  split
  · exact hes
  · exact hl k hk

theorem stIn_spec {ρ : Ren} : ∀ {vs : List V} {o sz : Nat} {new m : List V} {xs ns : List Value}, stIn vs o sz new = some m → C ρ vs xs → C ρ new ns → ns.length = sz →
    ∃ ys ms zs, xs = ys ++ (ms ++ zs) ∧ ys.length = o ∧ ms.length = sz ∧ C ρ m (ys ++ (ns ++ zs))
  | [], o, sz, new, m, xs, ns, h, hc, hn, hns => by simp [stIn] at h
  | v :: vs, o, sz, new, m, xs, ns, h, hc, hn, hns => by
    unfold stIn at h
    split at h
    · rename_i n s f
      cases hb : Nat.ble (n * s) o with
      | true =>
        simp only [hb, cond_true, Option.map_eq_some_iff] at h
        obtain ⟨w, h, rfl⟩ := h
        obtain ⟨ys, zs, rfl, hl, h1, h2⟩ := hc.uncons
        obtain ⟨as, ms, bs, rfl, hl', h3, h4⟩ := stIn_spec h h2 hn hns
        refine ⟨ys ++ as, ms, bs, by rw [List.append_assoc], ?_, h3, by rw [List.append_assoc]; exact h1.cons h4⟩
        have := ble_le hb
        rw [List.length_append, hl, hl']
        simp only [wd]
        omega
      | false =>
        simp only [hb, cond_false] at h
        have hlt := ble_gt hb
        obtain ⟨g, zs, rfl, hg, hgl, ht⟩ := hc.arr_inv
        have hs : 0 < s := by rcases Nat.eq_zero_or_pos s with h0 | h0; · subst h0; simp at hlt
                              · exact h0
        have hi : o / s < n := (Nat.div_lt_iff_lt_mul hs).2 hlt
        split at h
        · rename_i e he
          simp only [Option.some.injEq] at h
          subst h
          obtain ⟨as, bs, e1, e2, e7⟩ := flat_split s g n hgl (o / s) hi
          obtain ⟨ys, ms, cs, e3, e4, e5, e6⟩ := put_spec he (hg _ hi) hn hns
          have hel : (ys ++ (ns ++ cs)).length = s := by
            have := hgl _ hi
            rw [e3] at this
            simp only [List.length_append] at this ⊢
            omega
          refine ⟨as ++ ys, ms, cs ++ bs ++ zs, by rw [e1, e3]; simp, ?_, e5, ?_⟩
          · rw [List.length_append, e2, e4, Nat.mul_comm]
            exact Nat.div_add_mod o s
          · have h8 := C.arr n s _ _ vs zs (upd_spec (i := o / s) hg hgl e6 hel) (upd_len (i := o / s) hgl hel) ht
            rw [e7 (fun k => if k = o / s then ys ++ (ns ++ cs) else g k) (fun k hk hki => if_neg hki)] at h8
            simp only [if_true] at h8
            simpa using h8
        · cases h
    · cases hb : Nat.ble (wd v) o with
      | true =>
        simp only [hb, cond_true, Option.map_eq_some_iff] at h
        obtain ⟨w, h, rfl⟩ := h
        obtain ⟨ys, zs, rfl, hl, h1, h2⟩ := hc.uncons
        obtain ⟨as, ms, bs, rfl, hl', h3, h4⟩ := stIn_spec h h2 hn hns
        refine ⟨ys ++ as, ms, bs, by rw [List.append_assoc], ?_, h3, by rw [List.append_assoc]; exact h1.cons h4⟩
        have := ble_le hb
        rw [List.length_append, hl, hl']
        omega
      | false => simp only [hb, cond_false] at h; cases h

theorem stC_spec {ρ : Ren} {vs : List V} {o sz : Nat} {new m : List V} {xs ns : List Value} (h : stC vs o sz new = some m) (hc : C ρ vs xs) (hn : C ρ new ns) (hns : ns.length = sz) :
    ∃ ys ms zs, xs = ys ++ (ms ++ zs) ∧ ys.length = o ∧ ms.length = sz ∧ C ρ m (ys ++ (ns ++ zs)) := by
  unfold stC at h
  split at h
  · rename_i m' h'
    simp only [Option.some.injEq] at h
    subst h
    exact put_spec h' hc hn hns
  · exact stIn_spec h hc hn hns

theorem stA_spec {ρ : Ren} {vs : List V} {a : A} {sz : Nat} {new m : List V} {xs ns : List Value} (h : Leads (stA vs a sz new) m) (hc : C ρ vs xs) (hn : C ρ new ns) (hns : ns.length = sz) :
    ∃ ys ms zs, xs = ys ++ (ms ++ zs) ∧ ys.length = a.o + a.i * a.s ∧ ms.length = sz ∧ C ρ m (ys ++ (ns ++ zs)) := by
  unfold stA at h
  split at h
  · rename_i hs
    obtain ⟨ys, ms, zs, h1, h2, h3, h4⟩ := stC_spec h.opt_inv hc hn hns
    exact ⟨ys, ms, zs, h1, by rw [h2, hs]; simp, h3, h4⟩
  · rename_i s hs
    split at h
    · rename_i n f r h1
      split at h
      · rename_i e he
        obtain ⟨hi, h2⟩ := h.need_inv
        have h2 := h2.opt_inv
        obtain ⟨ys, g, zs, rfl, hl, hg, hgl, hset⟩ := findArr_spec h1 hc
        obtain ⟨as, bs, e1, e2, e7⟩ := flat_split (s + 1) g n hgl a.i hi
        obtain ⟨cs, ms, ds, e3, e4, e5, e6⟩ := put_spec he (hg _ hi) hn hns
        have hel : (cs ++ (ns ++ ds)).length = s + 1 := by
          have := hgl _ hi
          rw [e3] at this
          simp only [List.length_append] at this ⊢
          omega
        refine ⟨ys ++ as ++ cs, ms, ds ++ bs ++ zs, by rw [e1, e3]; simp, ?_, e5, ?_⟩
        · rw [List.length_append, List.length_append, e2, e4, hs]
          simp only [Nat.succ_eq_add_one]
          omega
        · have h8 := hset _ _ h2 _ (upd_spec (i := a.i) hg hgl e6 hel) (upd_len (i := a.i) hgl hel)
          rw [e7 (fun k => if k = a.i then cs ++ (ns ++ ds) else g k) (fun k hk hki => if_neg hki)] at h8
          simp only [if_true] at h8
          simpa using h8
      · exact h.fail_inv.elim
    · exact h.fail_inv.elim

end Go.X
