/- The evaluator is right: code, calls. -/
import Derived.Test.YtomeoihdhkmamaaDoorZxW
import Derived.LoopN
set_option linter.unusedVariables false
set_option linter.unusedSimpArgs false
namespace Go.X
open Go.RowKit (Below)

theorem TR.litB {ρ : Ren} {tm : List V} {a : Act} (h : TR ρ tm a.tmps) {c : Operand} {b : Bool} (hc : a.eval c = .bool b) : TR ρ (litB tm c b) a.tmps := by
  unfold X.litB
  split
  · exact h.lit hc
  · exact h

theorem Tr.sub {ρ ρ' : Ren} {m m' : Mem} {w w' : World} (h : Tr ρ m w ρ' m' w') : Sub ρ ρ' := h.ext.sub

section
variable {P : Program} {E : Env}

/-- A part of a function's code. -/
def Within (c c0 : Code) : Prop := (∀ l ∈ loops c, l ∈ loops c0) ∧ ∀ d ∈ draws c, d ∈ draws c0

theorem exec_step (hE : EnvOk P E) (f : FuncId) (fn : Func) (c0 : Code) (hf : P.funcs[f]? = some fn) (hb : fn.body = some c0) : ∀ (n : Nat), (∀ m, m < n → CallOk P (callBody P E (exec P E m))) →
    (∀ k, k < n → ∀ c, Within c c0 → CodeOk P (exec P E k f c) c) → ∀ c, Within c c0 → CodeOk P (exec P E n f c) c
  | 0, _, _, c, hl, st, e, st', ρ, a, w, Q, h, hr, htr, hQ => h.fail_inv.elim
  | n + 1, hcall, ihs, c, hl, st, e, st', ρ, a, w, Q, h, hr, htr, hQ => by
    have ih := ihs n (by omega)
    have hcn := hcall n (by omega)
    rw [exec_succ] at h
    unfold exec1 at h
    split at h
    · have h := h.ret_inv
      simp only [Prod.mk.injEq] at h
      obtain ⟨rfl, rfl⟩ := h
      exact wp_skip (hQ ρ a w (.refl hr) htr (.refl a))
    · rename_i id ops draw
      cases draw with
      | true =>
        simp only [cond_true] at h
        have key : ∀ k anc, headB ops k = true ∧ anc = ancs ops.toList k → Leads ((runDraw P E (callBody P E (exec P E n)) k anc ops st).bind fun st => .ret (.normal, st)) (e, st') → (Code.region id ops true).wp P Q a w := by
          intro k anc hpl h
          obtain ⟨st1, h1, h2⟩ := h.bind_inv
          have h2 := h2.ret_inv
          simp only [Prod.mk.injEq] at h2
          obtain ⟨rfl, rfl⟩ := h2
          exact runDraw_ok hE hcn hpl h1 hr htr fun ρ' a' w' t htr' hd' => hQ ρ' a' w' t htr' hd'
        split at h
        · rename_i k anc hp
          exact key k anc (hE.plan f id k anc hp fn c0 ops hf hb (hl.2 _ (by simp [draws]))) h
        · split at h
          · rename_i k anc hp
            exact key k anc (planOf_spec hp findN_spec) h
          · exact h.fail_inv.elim
      | false =>
        simp only [cond_false] at h
        obtain ⟨st1, h1, h2⟩ := h.bind_inv
        have h2 := h2.ret_inv
        simp only [Prod.mk.injEq] at h2
        obtain ⟨rfl, rfl⟩ := h2
        refine wp_region_list ?_
        exact runOps_ok hE hcn ops.toList st st' ρ a w h1 hr htr fun ρ' a' w' t htr' hd' => hQ ρ' a' w' t htr' hd'
    · rename_i x y
      obtain ⟨⟨e1, st1⟩, h1, h2⟩ := h.bind_inv
      refine wp_seq ?_
      refine ih x ⟨fun l hx => hl.1 l (by simp [loops, hx]), fun l hx => hl.2 l (by simp [draws, hx])⟩ st e1 st1 ρ a w _ h1 hr htr fun ρ1 a1 w1 t1 htr1 hd1 => ?_
      cases e1 with
      | normal =>
        exact ih y ⟨fun l hx => hl.1 l (by simp [loops, hx]), fun l hx => hl.2 l (by simp [draws, hx])⟩ st1 e st' ρ1 a1 w1 Q h2 t1.rel htr1 fun ρ2 a2 w2 t2 htr2 hd2 => hQ ρ2 a2 w2 (t1.trans t2) htr2 (hd1.trans hd2)
      | exit id =>
        have h2 := h2.ret_inv
        simp only [Prod.mk.injEq] at h2
        obtain ⟨rfl, rfl⟩ := h2
        exact hQ ρ1 a1 w1 t1 htr1 hd1
      | ret =>
        have h2 := h2.ret_inv
        simp only [Prod.mk.injEq] at h2
        obtain ⟨rfl, rfl⟩ := h2
        exact hQ ρ1 a1 w1 t1 htr1 hd1
    · rename_i cc x y
      have hc := ev_spec htr cc
      generalize hX : a.eval cc = X at hc
      split at h
      · rename_i hb'
        rw [hb'] at hc
        cases hc
        exact wp_cond_true hX (ih x ⟨fun l hx => hl.1 l (by simp [loops, hx]), fun l hx => hl.2 l (by simp [draws, hx])⟩ st e st' ρ a w Q h hr htr hQ)
      · rename_i hb'
        rw [hb'] at hc
        cases hc
        exact wp_cond_false hX (ih y ⟨fun l hx => hl.1 l (by simp [loops, hx]), fun l hx => hl.2 l (by simp [draws, hx])⟩ st e st' ρ a w Q h hr htr hQ)
      · rename_i b hb'
        rw [hb'] at hc
        cases hc
        rcases h.ite_inv with ⟨hbt, h9⟩ | ⟨hbt, h9⟩
        · subst hbt
          exact wp_cond_true hX (ih x ⟨fun l hx => hl.1 l (by simp [loops, hx]), fun l hx => hl.2 l (by simp [draws, hx])⟩ _ e st' ρ a w Q h9 hr (htr.litB hX) hQ)
        · subst hbt
          exact wp_cond_false hX (ih y ⟨fun l hx => hl.1 l (by simp [loops, hx]), fun l hx => hl.2 l (by simp [draws, hx])⟩ _ e st' ρ a w Q h9 hr (htr.litB hX) hQ)
      · exact h.fail_inv.elim
    · rename_i id body
      obtain ⟨⟨e1, st1⟩, h1, h2⟩ := h.bind_inv
      refine wp_block ?_
      refine ih body ⟨fun l hx => hl.1 l (by simpa [loops] using hx), fun l hx => hl.2 l (by simpa [draws] using hx)⟩ st e1 st1 ρ a w _ h1 hr htr fun ρ1 a1 w1 t1 htr1 hd1 => ?_
      cases e1 with
      | normal =>
        have h2 := h2.ret_inv
        simp only [Prod.mk.injEq] at h2
        obtain ⟨rfl, rfl⟩ := h2
        exact hQ ρ1 a1 w1 t1 htr1 hd1
      | ret =>
        have h2 := h2.ret_inv
        simp only [Prod.mk.injEq] at h2
        obtain ⟨rfl, rfl⟩ := h2
        exact hQ ρ1 a1 w1 t1 htr1 hd1
      | exit i =>
        simp only at h2
        simp only [Ex.real, Exit.inBlock]
        cases hi : Nat.beq i id with
        | true =>
          rw [hi] at h2
          simp only [cond_true] at h2
          have h2 := h2.ret_inv
          simp only [Prod.mk.injEq] at h2
          obtain ⟨rfl, rfl⟩ := h2
          rw [if_pos (beq_eq hi)]
          exact hQ ρ1 a1 w1 t1 htr1 hd1
        | false =>
          rw [hi] at h2
          simp only [cond_false] at h2
          have h2 := h2.ret_inv
          simp only [Prod.mk.injEq] at h2
          obtain ⟨rfl, rfl⟩ := h2
          have hne : i ≠ id := fun q => by subst q; rw [Nat.beq_refl] at hi; cases hi
          rw [if_neg hne]
          exact hQ ρ1 a1 w1 t1 htr1 hd1
    · rename_i body
      split at h
      · rename_i g hg
        exact hE.sum f _ g hg fn c0 body hf hb (hl.1 body (by simp [loops])) rfl st e st' ρ a w Q h hr htr hQ
      · rename_i hs
        have key : ∀ m, m ≤ n + 1 → ∀ st e st' ρ a w (Q : Exit → Act → World → Prop), Leads (exec P E m f (.loop body) st) (e, st') → Rel ρ st.mem w → TR ρ st.tm a.tmps →
            (∀ ρ' a' w', Tr ρ st.mem w ρ' st'.mem w' → TR ρ' st'.tm a'.tmps → Idles P a a' → Q e.real a' w') → Code.rounds P body Q m a w := by
          intro m
          induction m with
          | zero => intro _ st e st' ρ a w Q h; exact h.fail_inv.elim
          | succ m im =>
            intro hm st e st' ρ a w Q h hr htr hQ
            rw [exec_succ] at h
            unfold exec1 at h
            simp only [hs] at h
            obtain ⟨⟨e1, st1⟩, h1, h2⟩ := h.bind_inv
            rw [rounds_succ]
            refine ihs m (by omega) body ⟨fun l hx => hl.1 l (by simp [loops, hx]), fun l hx => hl.2 l (by simp [draws, hx])⟩ st e1 st1 ρ a w _ h1 hr htr fun ρ1 a1 w1 t1 htr1 hd1 => ?_
            cases e1 with
            | normal => exact im (by omega) st1 e st' ρ1 a1 w1 Q h2 t1.rel htr1 (fun ρ2 a2 w2 t2 htr2 hd2 => hQ ρ2 a2 w2 (t1.trans t2) htr2 (hd1.trans hd2))
            | exit id =>
              have h2 := h2.ret_inv
              simp only [Prod.mk.injEq] at h2
              obtain ⟨rfl, rfl⟩ := h2
              exact hQ ρ1 a1 w1 t1 htr1 hd1
            | ret =>
              have h2 := h2.ret_inv
              simp only [Prod.mk.injEq] at h2
              obtain ⟨rfl, rfl⟩ := h2
              exact hQ ρ1 a1 w1 t1 htr1 hd1
        refine wp_loop_rounds (n + 1) (key (n + 1) (Nat.le_refl _) st e st' ρ a w Q ?_ hr htr hQ)
        rw [exec_succ]
        unfold exec1
        simp only [hs]
        exact h
    · rename_i id
      have h := h.ret_inv
      simp only [Prod.mk.injEq] at h
      obtain ⟨rfl, rfl⟩ := h
      exact wp_exit (hQ ρ a w (.refl hr) htr (.refl a))
    · have h := h.ret_inv
      simp only [Prod.mk.injEq] at h
      obtain ⟨rfl, rfl⟩ := h
      exact wp_ret (hQ ρ a w (.refl hr) htr (.refl a))
    · have h := h.ret_inv
      simp only [Prod.mk.injEq] at h
      obtain ⟨rfl, rfl⟩ := h
      exact wp_label (hQ ρ a w (.refl hr) htr (.refl a))
    · exact h.fail_inv.elim

def resF (tmps : Array Value) : ResultVar → Sem Value
  | .tmp t => pure (tmps.getD t undef)
  | .cell a t => do loadVar t (← asAddr (tmps.getD a undef))

theorem results_resF (fn : Func) (tmps : Array Value) : results fn tmps = (do
    let vs ← fn.results.mapM (resF tmps)
    pure (if h : vs.size = 1 then vs[0] else .tuple vs)) := by
  unfold results
  congr 1

theorem resL_spec {ρ : Ren} {st : St} {w : World} {tmps : Array Value} (hr : Rel ρ st.mem w) (htr : TR ρ st.tm tmps) : ∀ (l : List ResultVar) (vs : List V), Leads (resL P st l) vs →
    ∃ xs, RL ρ vs xs ∧ (l.mapM (resF tmps)).run P w = .ok xs w
  | [], vs, h => by
    have h := h.ret_inv
    subst h
    exact ⟨[], .nil, by simp⟩
  | .tmp t :: l, vs, h => by
    unfold resL at h
    obtain ⟨us, h1, h2⟩ := h.bind_inv
    have h2 := h2.ret_inv
    subst h2
    obtain ⟨xs, h3, h4⟩ := resL_spec hr htr l us h1
    refine ⟨_ :: xs, .cons _ _ _ _ (htr.at_ t) h3, ?_⟩
    simp only [List.mapM_cons, Sem.run_bind, resF, Sem.run_pure, Result.andThen_ok, h4]
  | .cell a t :: l, vs, h => by
    unfold resL at h
    have hx := htr.at_ a
    split at h
    · rename_i p hp
      obtain ⟨v, h0, h⟩ := h.bind_inv
      obtain ⟨us, h1, h2⟩ := h.bind_inv
      have h2 := h2.ret_inv
      subst h2
      rw [hp] at hx
      generalize hX : tmps.getD a undef = X at hx
      cases hx with
      | ptr p b hb =>
        obtain ⟨x, hx, hw⟩ := ldV_spec hr h0 hb
        obtain ⟨xs, h3, h4⟩ := resL_spec hr htr l us h1
        refine ⟨x :: xs, .cons _ _ _ _ hx h3, ?_⟩
        have e : (resF tmps (.cell a t)).run P w = .ok x w := by
          simp only [resF, hX, Sem.run_bind]
          show (loadVar t _).run P w = _
          exact hw w (.refl _ _)
        simp only [List.mapM_cons, Sem.run_bind, e, Sem.run_pure, Result.andThen_ok, h4]
    · exact h.fail_inv.elim


theorem resV_spec {ρ : Ren} {st : St} {w : World} {tmps : Array Value} {fn : Func} {v : V} (hr : Rel ρ st.mem w) (htr : TR ρ st.tm tmps) (h : Leads (resV P fn st) v) :
    ∃ x, R ρ v x ∧ (results fn tmps).run P w = .ok x w := by
  unfold resV at h
  obtain ⟨vs, h1, h2⟩ := h.bind_inv
  obtain ⟨xs, h3, h4⟩ := resL_spec hr htr fn.results.toList vs h1
  have hm : (fn.results.mapM (resF tmps)).run P w = .ok xs.toArray w := by
    rw [Array.mapM_eq_mapM_toList]
    simp only [Sem.run_map]
    rw [h4]
    rfl
  have hl := h3.length
  split at h2
  · rename_i v' 
    have h2 := h2.ret_inv
    subst h2
    cases h3 with
    | cons v x vs xs hx ht =>
      cases ht
      refine ⟨x, hx, ?_⟩
      rw [results_resF, Sem.run_bind, hm]
      rfl
  · rename_i hne
    have h2 := h2.ret_inv
    subst h2
    refine ⟨_, .tuple _ _ h3, ?_⟩
    rw [results_resF, Sem.run_bind, hm]
    simp only [Result.andThen_ok]
    have : xs.toArray.size ≠ 1 := by
      intro hs
      have : vs.length = 1 := by rw [← hl]; simpa using hs
      obtain ⟨q, rfl⟩ := List.length_eq_one_iff.1 this
      exact hne q rfl
    rw [dif_neg this]
    rfl

theorem ok1_spec {ρ ρ' : Ren} {N : Nat} (hN : ∀ id j b, id < N → ρ' id j = some b → ρ id j = some b ∧ ρ'.k id = ρ.k id) {v : V} {x : Value} (h : ok1 N v = true) (hx : R ρ' v x) : R ρ v x := by
  unfold ok1 at h
  cases hx with
  | unk x => exact .unk x
  | bool b => exact .bool b
  | sbool b => exact .sbool b
  | int k n => exact .int k n
  | sint k n => exact .sint k n
  | str s sy => exact .str s sy
  | ptr a b hb => exact .ptrAt (hN _ _ _ (ble_le h) hb).1 (by rw [(hN _ _ _ (ble_le h) hb).2])
  | nil => exact .nil
  | sptr c a b hb => exact .sptrAt (fun q => ⟨(hN _ _ _ (ble_le h) (hb q)).1, by rw [(hN _ _ _ (ble_le h) (hb q)).2]⟩)
  | slice a n c' c sy b hb hc he => exact .sliceAt (hN _ _ _ (ble_le h) hb).1 hc (he.mono (hN _ _ _ (ble_le h) hb).2.symm) (by rw [(hN _ _ _ (ble_le h) hb).2])
  | empty a x c sy hx he => exact .empty a x c sy hx he
  | nilSlice => exact .nilSlice
  | map r b hb => exact .map r b (hN _ _ _ (ble_le h) hb).1
  | nilMap => exact .nilMap
  | func fn f c f' c' h1 h2 =>
    cases h1 with
    | nil =>
      cases h2 with
      | nil => exact .func _ [] [] [] [] .nil .nil
      | cons _ _ _ _ _ _ => cases h
    | cons _ _ _ _ _ _ => cases h
  | nilFunc => exact .nilFunc
  | iface t v x h' => cases h
  | nilIface => exact .nilIface
  | agg cs xs hc => cases h
  | tuple vs xs hv => cases h
  | held x => exact .held x

theorem okFlat_spec {ρ ρ' : Ren} {N : Nat} (hN : ∀ id j b, id < N → ρ' id j = some b → ρ id j = some b ∧ ρ'.k id = ρ.k id) : ∀ {cs : List V} {xs : List Value}, cs.all (fun v => ok1 N v && !isArr v) = true → C ρ' cs xs → C ρ cs xs
  | [], xs, h, hc => by cases hc; exact .nil
  | c :: cs, xs, h, hc => by
    simp only [List.all_cons, Bool.and_eq_true] at h
    cases hc with
    | one v x vs xs hv h1 t => exact .one _ _ _ _ (ok1_spec hN h.1.1 hv) h1 (okFlat_spec hN h.2 t)
    | unks n us vs xs hn h1 t => exact .unks _ _ _ _ hn h1 (okFlat_spec hN h.2 t)
    | arr n s f g vs xs hh hl t => have := h.1.2; simp [isArr] at this

theorem okC_spec {ρ ρ' : Ren} {N : Nat} (hN : ∀ id j b, id < N → ρ' id j = some b → ρ id j = some b ∧ ρ'.k id = ρ.k id) : ∀ {cs : List V} {xs : List Value}, cs.all (ok1 N) = true → (cs.any isArr = true → neeL N cs) → C ρ' cs xs → C ρ cs xs
  | [], xs, h, hn, hc => by cases hc; exact .nil
  | c :: cs, xs, h, hn, hc => by
    simp only [List.all_cons, Bool.and_eq_true] at h
    have hn' : cs.any isArr = true → neeL N cs := fun q => (hn (by simp [q])).2
    cases hc with
    | one v x vs xs hv h1 t => exact .one _ _ _ _ (ok1_spec hN h.1 hv) h1 (okC_spec hN h.2 hn' t)
    | unks n us vs xs hnn h1 t => exact .unks _ _ _ _ hnn h1 (okC_spec hN h.2 hn' t)
    | arr n s f g vs xs hh hl t => exact .arr _ _ _ _ _ _ (fun k hk => okFlat_spec hN ((hn (by simp [isArr])).1 k hk) (hh k hk)) hl (okC_spec hN h.2 hn' t)

theorem ok2_spec {ρ ρ' : Ren} {N : Nat} (hN : ∀ id j b, id < N → ρ' id j = some b → ρ id j = some b ∧ ρ'.k id = ρ.k id) {v : V} {x : Value} (h : ok2 N v = true) (hn : arr2 v = true → nee2 N v) (hx : R ρ' v x) : R ρ v x := by
  unfold ok2 at h
  split at h
  · cases hx with
    | agg cs xs hc => exact .agg _ _ (okC_spec hN h hn hc)
  · cases hx with
    | iface t v x hv => exact .iface _ _ _ (ok1_spec hN h hv)
  · exact ok1_spec hN h hx

theorem okL_spec {ρ ρ' : Ren} {N : Nat} (hN : ∀ id j b, id < N → ρ' id j = some b → ρ id j = some b ∧ ρ'.k id = ρ.k id) : ∀ {vs : List V} {xs : List Value}, vs.all (ok2 N) = true → (vs.any arr2 = true → neeT N vs) → RL ρ' vs xs → RL ρ vs xs
  | [], xs, h, hn, hc => by cases hc; exact .nil
  | c :: cs, xs, h, hn, hc => by
    simp only [List.all_cons, Bool.and_eq_true] at h
    cases hc with
    | cons v x vs xs hv t => exact .cons _ _ _ _ (ok2_spec hN h.1 (fun q => (hn (by simp [q])).1) hv) (okL_spec hN h.2 (fun q => (hn (by simp [q])).2) t)

theorem ok3_spec {ρ ρ' : Ren} {N : Nat} (hN : ∀ id j b, id < N → ρ' id j = some b → ρ id j = some b ∧ ρ'.k id = ρ.k id) {v : V} {x : Value} (h : ok3 N v = true) (hn : arr3 v = true → nee3 N v) (hx : R ρ' v x) : R ρ v x := by
  unfold ok3 at h
  split at h
  · cases hx with
    | tuple vs xs hv => exact .tuple _ _ (okL_spec hN h hn hv)
  · rename_i hnt
    refine ok2_spec hN h (fun q => ?_) hx
    have := hn (by unfold arr3; split; exact (hnt _ rfl).elim; exact q)
    unfold nee3 at this
    split at this
    · exact (hnt _ rfl).elim
    · exact this

theorem getL_append (as bs : List V) (i : Nat) : getL (as ++ bs) i = if i < as.length then getL as i else getL bs (i - as.length) := by
  induction as generalizing i with
  | nil => simp
  | cons a as ih =>
    cases i with
    | zero => simp [getL_nil, getL_zero, getL_succ]
    | succ i => simp only [List.cons_append, getL_nil, getL_zero, getL_succ, ih, List.length_cons, Nat.succ_lt_succ_iff, Nat.add_sub_add_right]

theorem getL_replU : ∀ (n i : Nat), getL (replU n) i = .unk
  | 0, i => by simp [replU, getL_nil, getL_zero, getL_succ]
  | n + 1, 0 => rfl
  | n + 1, i + 1 => getL_replU n i

theorem getL_RL {ρ : Ren} : ∀ {vs : List V} {xs : List Value}, RL ρ vs xs → ∀ i, i < vs.length → R ρ (getL vs i) (xs.getD i undef)
  | _, _, .nil, i, h => by simp at h
  | _, _, .cons v x vs xs hx t, 0, h => hx
  | _, _, .cons v x vs xs hx t, i + 1, h => by simpa [getL_nil, getL_zero, getL_succ] using getL_RL t i (by simpa using h)

theorem replU_length (n : Nat) : (replU n).length = n := by induction n with
  | zero => rfl
  | succ n ih => simp [replU, ih]

theorem TR.enter {ρ : Ren} {args : List V} {xs : List Value} (h : RL ρ args xs) (n : Nat) : TR ρ (args ++ replU (n - args.length)) (xs.toArray ++ Array.replicate (n - xs.toArray.size) undef) := by
  have hl := h.length
  refine ⟨by simp [replU_length, hl], fun i => ?_⟩
  rw [getL_append]
  split
  · rename_i hi
    have := getL_RL h i hi
    rw [Array.getD_eq_getD_getElem?, Array.getElem?_append_left (by simp [hl]; exact hi)]
    rw [List.getD_eq_getElem?_getD] at this
    simpa using this
  · rw [getL_replU]
    exact .unk _

/-- A call is right, if its body's run is. -/
theorem leaves_idle {fn : Func} {tmps : Array Value} {w : World} {v : Value} {RR : Ending → World → Prop} (hv : (results fn tmps).run P w = .ok v w) (hR : RR (.returned v) w) : ∀ ds : List Deferred, (∀ d ∈ ds, IdleD P d) → Leaves P fn tmps RR ds .returning w
  | [], _ => ⟨v, hv, hR⟩
  | d :: ds, h => by
    obtain ⟨fv, cap, f, args, h1, h2, h3⟩ := h d (List.mem_cons_self ..)
    refine ⟨by simp, fv, cap, f, args, h1, h2 w, (h3 w).mono ?_⟩
    rintro e u' w' ⟨⟨x, rfl⟩, rfl, rfl⟩
    exact leaves_idle hv hR ds fun d hd => h d (List.mem_cons_of_mem _ hd)

theorem callBody_ok (hE : EnvOk P E) {run : FuncId → Code → St → T (Ex × St)} (hrun : ∀ f fn c, P.funcs[f]? = some fn → fn.body = some c → CodeOk P (run f c) c) : CallOk P (callBody P E run) := by
  intro f args m v om xs ρ w h hr hxs
  unfold callBody at h
  split at h
  · rename_i g hg
    exact hE.ext f g hg args m v om xs ρ w h hr hxs
  · split at h
    · rename_i fn hf
      split at h
      · rename_i c hb
        obtain ⟨⟨e, st1⟩, h1, h2⟩ := h.bind_inv
        have hr0 : Rel ρ { m with low := m.objs.length } w := ⟨hr.objs, hr.inj, hr.dom⟩
        have htr0 := TR.enter hxs fn.ntmps
        refine calls_of_wp_defers hf hb ?_
        refine hrun f fn c hf hb _ e st1 ρ _ w _ h1 hr0 htr0 fun ρ1 a1 w1 t1 htr1 hd1 => ?_
        have fin : ∀ {v : V} {om : Option Mem}, Leads ((resV P fn st1).bind fun v => finish m v st1.mem) (v, om) → ∃ x, (results fn a1.tmps).run P w1 = .ok x w1 ∧ (∃ y, Ending.returned x = Ending.returned y ∧ match om with
            | none => R ρ v y ∧ Below w.heap.size w w1
            | some m' => ∃ ρ', Tr ρ m w ρ' m' w1 ∧ R ρ' v y) := by
          intro v om h2
          obtain ⟨v', h3, h4⟩ := h2.bind_inv
          obtain ⟨x, hx, hw⟩ := resV_spec t1.rel htr1 h3
          refine ⟨x, hw, x, rfl, ?_⟩
          unfold finish at h4
          have hlow := t1.low
          cases hq : (Nat.ble m.objs.length st1.mem.low && ok3 m.objs.length v') with
          | true =>
            rw [hq] at h4
            simp only [cond_true] at h4
            simp only [Bool.and_eq_true] at hq
            have hlo := ble_le hq.1
            have hbel : Below w.heap.size w w1 := t1.keeps.below (fun id j b hj => Nat.lt_of_lt_of_le (hr.dom id j b hj).1 hlo)
            have hN : ∀ id j b, id < m.objs.length → ρ1 id j = some b → ρ id j = some b ∧ ρ1.k id = ρ.k id := by
              intro id j b hlt hj
              rcases t1.ext.new id j b hj with h | ⟨h, _⟩
              · exact ⟨h, (t1.ext.sub _ _ _ h).2⟩
              · simp only at h; omega
            cases ha : arr3 v' with
            | true =>
              rw [ha] at h4
              simp only [cond_true] at h4
              obtain ⟨hn, h4⟩ := h4.need_inv
              have h4 := h4.ret_inv
              simp only [Prod.mk.injEq] at h4
              obtain ⟨rfl, rfl⟩ := h4
              exact ⟨ok3_spec hN hq.2 (fun _ => hn) hx, hbel⟩
            | false =>
              rw [ha] at h4
              simp only [cond_false] at h4
              have h4 := h4.ret_inv
              simp only [Prod.mk.injEq] at h4
              obtain ⟨rfl, rfl⟩ := h4
              exact ⟨ok3_spec hN hq.2 (fun q => by rw [ha] at q; cases q) hx, hbel⟩
          | false =>
            rw [hq] at h4
            simp only [cond_false] at h4
            have h4 := h4.ret_inv
            simp only [Prod.mk.injEq] at h4
            obtain ⟨rfl, rfl⟩ := h4
            refine ⟨ρ1, ⟨⟨t1.rel.objs, t1.rel.inj, t1.rel.dom⟩, t1.ext.mono (Nat.min_le_right _ _) (Nat.le_refl _), t1.keeps.mono (Nat.min_le_right _ _), Nat.min_le_left _ _, t1.len⟩, hx⟩
        cases e with
        | normal => obtain ⟨x, hx, hR⟩ := fin h2; exact leaves_idle hx hR _ (hd1 fun d hd => by cases hd)
        | ret => obtain ⟨x, hx, hR⟩ := fin h2; exact leaves_idle hx hR _ (hd1 fun d hd => by cases hd)
        | exit id => exact h2.fail_inv.elim
      · exact h.fail_inv.elim
    · exact h.fail_inv.elim

theorem both_ok (hE : EnvOk P E) : ∀ n, (∀ m, m < n → CallOk P (callBody P E (exec P E m))) ∧
    (∀ k, k < n → ∀ f fn c0, P.funcs[f]? = some fn → fn.body = some c0 → ∀ c, Within c c0 → CodeOk P (exec P E k f c) c)
  | 0 => ⟨fun m hm => by omega, fun k hk => by omega⟩
  | n + 1 => by
    obtain ⟨h1, h2⟩ := both_ok hE n
    have h3 : ∀ f fn c0, P.funcs[f]? = some fn → fn.body = some c0 → ∀ c, Within c c0 → CodeOk P (exec P E n f c) c := fun f fn c0 hf hb =>
      exec_step hE f fn c0 hf hb n h1 (fun k hk => h2 k hk f fn c0 hf hb)
    refine ⟨fun m hm => ?_, fun k hk => ?_⟩
    · rcases Nat.lt_or_ge m n with h | h
      · exact h1 m h
      · obtain rfl : m = n := by omega
        exact callBody_ok hE fun f fn c hf hb => h3 f fn c hf hb c ⟨fun l hl => hl, fun l hl => hl⟩
    · rcases Nat.lt_or_ge k n with h | h
      · exact h2 k h
      · obtain rfl : k = n := by omega
        exact h3

/-- THE EVALUATOR IS RIGHT. -/
theorem call_ok (hE : EnvOk P E) (n : Nat) : CallOk P (call P E n) := (both_ok hE (n + 1)).1 n (by omega)

theorem exec_ok (hE : EnvOk P E) (n : Nat) {f : FuncId} {fn : Func} {c0 : Code} (hf : P.funcs[f]? = some fn) (hb : fn.body = some c0) (c : Code) (hc : Within c c0) : CodeOk P (exec P E n f c) c :=
  (both_ok hE (n + 1)).2 n (by omega) f fn c0 hf hb c hc
end

end Go.X
