/- The evaluator is right: regions, code, calls. -/
import Derived.Test.YtomeoihdhkmamaaDoorZxU
import Derived.Recover
set_option linter.unusedVariables false
set_option linter.unusedSimpArgs false
namespace Go.X
open Go.RowKit (Below)

/-- What a call may be taken for. -/
def CallOk1 (P : Program) (f : FuncId) (g : List V → Mem → T (V × Option Mem)) : Prop :=
  ∀ args m v om xs ρ w, Leads (g args m) (v, om) → Rel ρ m w → RL ρ args xs →
    Calls P f xs.toArray w fun e w' => ∃ x, e = .returned x ∧ match om with
      | none => R ρ v x ∧ Below w.heap.size w w'
      | some m' => ∃ ρ', Tr ρ m w ρ' m' w' ∧ R ρ' v x

def CallOk (P : Program) (call : FuncId → List V → Mem → T (V × Option Mem)) : Prop := ∀ f, CallOk1 P f (call f)

/-- A deferred call that does nothing where the function returns. -/
def IdleD (P : Program) (d : Deferred) : Prop :=
  ∃ fv cap f args, d.target = .fn fv cap ∧ (∀ w, (invoke d.target d.args).run P w = .ok (.enter f args) w) ∧ ∀ w, CallsD P f args .returning w fun e u' w' => (∃ v, e = .returned v) ∧ u' = .returning ∧ w' = w

def Idles (P : Program) (a a' : Act) : Prop := (∀ d ∈ a.defers, IdleD P d) → ∀ d ∈ a'.defers, IdleD P d

theorem Idles.refl {P : Program} (a : Act) : Idles P a a := fun h => h
theorem Idles.trans {P : Program} {a a' a'' : Act} (h : Idles P a a') (h' : Idles P a' a'') : Idles P a a'' := fun q => h' (h q)
theorem Idles.of_eq {P : Program} {a a' : Act} (h : a'.defers = a.defers) : Idles P a a' := fun q => by rw [h]; exact q

def Ex.real : Ex → Exit
  | .normal => .normal
  | .exit id => .exit id
  | .ret => .ret

/-- What a piece of code may be taken for. -/
def CodeOk (P : Program) (F : St → T (Ex × St)) (c : Code) : Prop :=
  ∀ st e st' ρ a w (Q : Exit → Act → World → Prop), Leads (F st) (e, st') → Rel ρ st.mem w → TR ρ st.tm a.tmps →
    (∀ ρ' a' w', Tr ρ st.mem w ρ' st'.mem w' → TR ρ' st'.tm a'.tmps → Idles P a a' → Q e.real a' w') → c.wp P Q a w

structure EnvOk (P : Program) (E : Env) : Prop where
  eqs : EqsOk P E.eqs
  ext : ∀ f g, E.ext f = some g → CallOk1 P f g
  sum : ∀ (f id : Nat) g, E.sum f id = some g → ∀ (fn : Func) (c body : Code), P.funcs[f]? = some fn → fn.body = some c → body ∈ loops c → firstRegion body = id → CodeOk P g (.loop body)
  idle : ∀ g k, E.idle g = some k → ∀ (xs : List Value), xs.length = k → ∀ w, CallsD P g xs.toArray .returning w fun e u' w' => (∃ v, e = .returned v) ∧ u' = .returning ∧ w' = w
  esc : ∀ g, E.esc g = true → ∀ x w, (callFunc g #[x]).run P w = .ok (.value x) w
  plan : ∀ (f id n : Nat) anc, E.plan f id = some (n, anc) → ∀ (fn : Func) (c : Code) (ops : Array Oper), P.funcs[f]? = some fn → fn.body = some c → (id, ops) ∈ draws c → headB ops n = true ∧ anc = ancs ops.toList n
  mixed : P.follows .mixedOrders = true
  names : ∀ (f : FuncId) (fn : Func), P.funcs[f]? = some fn → (fn.name == "runtime.NumGoroutine") = false

theorem Act.put_defers' (a : Act) (d : Option Tmp) (v : Value) : (a.put d v).defers = a.defers := by cases d <;> rfl

theorem RL.append {ρ : Ren} : ∀ {vs : List V} {xs : List Value} {us : List V} {ys : List Value}, RL ρ vs xs → RL ρ us ys → RL ρ (vs ++ us) (xs ++ ys)
  | _, _, _, _, .nil, h' => h'
  | _, _, _, _, .cons v x vs xs h t, h' => .cons _ _ _ _ h (t.append h')

theorem callOf_spec {P : Program} {E : Env} (hE : EnvOk P E) {ρ : Ren} {tm : List V} {a : Act} {o : Oper} {f : FuncId} {args : List V} (htr : TR ρ tm a.tmps) (h : callOf P tm o.op = some (f, args)) :
    ∃ xs, RL ρ args xs ∧ ∀ w, (execOp a.eval o).run P w = .ok (.enter f xs.toArray) w := by
  unfold callOf at h
  split at h
  · rename_i g as ty ho
    have hg := ev_spec htr g
    split at h
    · rename_i k first captured hf
      obtain ⟨hb, h⟩ := bif_some h
      simp only [Prod.mk.injEq] at h
      obtain ⟨rfl, rfl⟩ := h
      rw [hf] at hg
      generalize hX : a.eval g = X at hg
      cases hg with
      | func fn fi ca fi' ca' h1 h2 =>
        refine ⟨_, h1.append ((evL_spec htr as.toList).append h2), fun w => ?_⟩
        unfold fnB at hb
        split at hb
        · rename_i fn hfn
          have hn := hE.names _ _ hfn
          simp only [execOp, ho, resolve, hX, Deferred.ofValue, Sem.run_bind, Sem.run_pure, Result.andThen_ok, invoke, callFunc, program, Sem.run]
          simp only [hfn, hn, Bool.false_eq_true, if_false]
          have hni : fn.body.isNone = false := by cases hbd : fn.body with
            | none => rw [hbd] at hb; cases hb
            | some c => rfl
          simp only [hni, Bool.false_eq_true, if_false, Sem.run_pure]
          congr 3
          apply Array.ext'
          simp
        · cases hb
    · cases h
  · cases h

theorem TR.lit {ρ : Ren} {tm : List V} {tmps : Array Value} (h : TR ρ tm tmps) {d : Nat} {b : Bool} (hd : tmps.getD d undef = .bool b) : TR ρ (setL tm d (.bool b)) tmps := by
  refine ⟨by rw [setL_length]; exact h.len, fun i => ?_⟩
  rw [getL_setL]
  split
  · rename_i hi
    rw [← hi.1, hd]
    exact .bool b
  · exact h.at_ i

theorem yielded_of {ops : Array Oper} {tmps : Array Value} {j : Nat} {o : Oper} {d : Tmp} (hj : objL ops.toList j = some o) (hd : o.dst = some d) (x : Value) (hx : tmps.getD d undef = x) :
    (∀ b, x = .bool b → yielded ops tmps j = some b) ∧ (x = .tuple #[] → yielded ops tmps j = none) := by
  rw [objL_toList] at hj
  have hj' : ops[j]? = some o := by simpa using hj
  unfold yielded
  rw [hj', Option.bind_some, hd, Option.bind_some]
  rw [Array.getD_eq_getD_getElem?] at hx
  constructor
  · intro b hb
    subst hb
    cases h : tmps[d]? with
    | none => rw [h] at hx; cases hx
    | some v => rw [h] at hx; simp only [Option.getD_some] at hx; rw [hx]
  · intro hb
    subst hb
    cases h : tmps[d]? with
    | none => rfl
    | some v => rw [h] at hx; simp only [Option.getD_some] at hx; rw [hx]

theorem guardV_spec {ρ : Ren} {ops : Array Oper} {tm tm' : List V} {tmps : Array Value} {j : Nat} {want r : Bool} (h : Leads (guardV ops.toList tm j want) (r, tm')) (htr : TR ρ tm tmps) :
    (yielded ops tmps j == some want) = r ∧ TR ρ tm' tmps := by
  unfold guardV at h
  split at h
  · rename_i o hj
    split at h
    · rename_i d hd
      have hx := htr.at_ d
      have hy := yielded_of hj hd _ rfl (tmps := tmps)
      generalize hX : tmps.getD d undef = X at hx hy
      split at h
      · rename_i b hb
        have h := h.ret_inv
        simp only [Prod.mk.injEq] at h
        obtain ⟨rfl, rfl⟩ := h
        rw [hb] at hx
        cases hx
        rw [hy.1 b rfl]
        exact ⟨by simp, htr⟩
      · rename_i b hb
        rw [hb] at hx
        cases hx
        rw [hy.1 b rfl]
        rcases h.ite_inv with ⟨hc, h⟩ | ⟨hc, h⟩
        · have h := h.ret_inv
          simp only [Prod.mk.injEq] at h
          obtain ⟨rfl, rfl⟩ := h
          subst hc
          exact ⟨by cases r <;> rfl, htr.lit hX⟩
        · have h := h.ret_inv
          simp only [Prod.mk.injEq] at h
          obtain ⟨rfl, rfl⟩ := h
          subst hc
          exact ⟨by cases want <;> rfl, htr.lit hX⟩
      · rename_i hb
        have h := h.ret_inv
        simp only [Prod.mk.injEq] at h
        obtain ⟨rfl, rfl⟩ := h
        rw [hb] at hx
        cases hx with
        | tuple vs xs hv =>
          cases hv
          rw [hy.2 rfl]
          exact ⟨by cases want <;> rfl, htr⟩
      · exact h.fail_inv.elim
    · exact h.fail_inv.elim
  · exact h.fail_inv.elim

section
variable {P : Program} {E : Env} {call : FuncId → List V → Mem → T (V × Option Mem)}

/-- One operation. -/
theorem op1_ok (hE : EnvOk P E) (hc : CallOk P call) {o : Oper} {st st' : St} {ρ : Ren} {a : Act} {w : World} {K : Act → World → Prop} {Q : Exit → Act → World → Prop} (h : Leads (op1 P E call o st) st')
    (hr : Rel ρ st.mem w) (htr : TR ρ st.tm a.tmps) (hK : ∀ ρ' x w', Tr ρ st.mem w ρ' st'.mem w' → TR ρ' st'.tm (a.put o.dst x).tmps → K (a.put o.dst x) w') : o.wp P a w K Q := by
  obtain ⟨tm, m⟩ := st
  unfold op1 at h
  simp only at h hr htr
  split at h
  · rename_i t ht
    obtain ⟨v, h1, h2⟩ := h.bind_inv
    have h2 := h2.ret_inv
    subst h2
    obtain ⟨x, hx, hw⟩ := pure_spec hE.eqs hr htr ht h1
    unfold Oper.wp
    rw [hw w (.refl _ _), Oper.upon_value]
    refine hK ρ _ w ?_ (htr.put o.dst hx m)
    have : ((St.mk tm m).put o.dst v).mem = m := by cases o.dst <;> rfl
    rw [this]
    exact .refl hr
  · split at h
    · rename_i f args hcall
      obtain ⟨⟨v, om⟩, h1, h2⟩ := h.bind_inv
      obtain ⟨xs, hxs, hw⟩ := callOf_spec hE htr hcall
      unfold Oper.wp
      rw [hw w, Oper.upon_enter]
      refine (hc f args m v om xs ρ w h1 hr hxs).mono ?_
      rintro e w' ⟨x, rfl, hres⟩
      simp only
      cases om with
      | none =>
        simp only at h2 hres
        have h2 := h2.ret_inv
        subst h2
        refine hK ρ _ w' ?_ (htr.put o.dst hres.1 m)
        have : ((St.mk tm m).put o.dst v).mem = m := by cases o.dst <;> rfl
        rw [this]
        exact .below hr hres.2
      | some m' =>
        simp only at h2 hres
        have h2 := h2.ret_inv
        subst h2
        obtain ⟨ρ', ht, hx⟩ := hres
        refine hK ρ' _ w' ?_ ((htr.mono ht.ext.sub).put o.dst hx m')
        have : ((St.mk tm m').put o.dst v).mem = m' := by cases o.dst <;> rfl
        rw [this]
        exact ht
    · split at h
      · rename_i t ht
        obtain ⟨⟨v, m'⟩, h1, h2⟩ := h.bind_inv
        have h2 := h2.ret_inv
        subst h2
        obtain ⟨ρ', w', nx, x, hw, hnx, hx, htt⟩ := memOp_spec hr htr ht h1
        have key : K (a.put o.dst x) w' := by
          refine hK ρ' _ w' ?_ ((htr.mono htt.ext.sub).put o.dst hx m')
          have : ((St.mk tm m').put o.dst v).mem = m' := by cases o.dst <;> rfl
          rw [this]
          exact htt
        unfold Oper.wp
        rw [hw]
        rcases hnx with rfl | ⟨rfl, rfl⟩
        · rw [Oper.upon_value]; exact key
        · rw [Oper.upon_skip]; exact key
      · split at h
        · rename_i t ht
          obtain ⟨⟨v, m'⟩, h1, h2⟩ := h.bind_inv
          have h2 := h2.ret_inv
          subst h2
          obtain ⟨w', x, hw, hx, htt⟩ := memOp2_spec hE.esc hr htr ht h1
          unfold Oper.wp
          rw [hw, Oper.upon_value]
          refine hK ρ _ w' ?_ ((htr.mono htt.ext.sub).put o.dst hx m')
          have : ((St.mk tm m').put o.dst v).mem = m' := by cases o.dst <;> rfl
          rw [this]
          exact htt
        · exact h.fail_inv.elim

theorem RL.length {ρ : Ren} : ∀ {vs : List V} {xs : List Value}, RL ρ vs xs → xs.length = vs.length
  | _, _, .nil => rfl
  | _, _, .cons v x vs xs h t => by simp [t.length]

/-- A call is deferred. -/
theorem deferOf_spec {E : Env} (hE : EnvOk P E) {ρ : Ren} {tm : List V} {a : Act} {o : Oper} (htr : TR ρ tm a.tmps) (h : deferOf P E tm o.op = true) :
    ∃ d, IdleD P d ∧ ∀ w, (execOp a.eval o).run P w = .ok (.defer d) w := by
  unfold deferOf at h
  split at h
  · rename_i g ty ho
    have hg := ev_spec htr g
    split at h
    · rename_i k captured hf
      split at h
      · rename_i m hm
        simp only [Bool.and_eq_true] at h
        obtain ⟨hb, hlen⟩ := h
        rw [hf] at hg
        generalize hX : a.eval g = X at hg
        cases hg with
        | func fn fi ca fi' ca' h1 h2 =>
          cases h1
          have hl : ca'.length = m := by rw [h2.length]; exact Nat.eq_of_beq_eq_true hlen
          refine ⟨{ target := .fn (.func k) ca'.toArray, args := #[] }, ⟨_, _, k, ca'.toArray, rfl, fun w => ?_, hE.idle k m hm ca' hl⟩, fun w => ?_⟩
          · unfold fnB at hb
            split at hb
            · rename_i fn hfn
              have hn := hE.names _ _ hfn
              have hni : fn.body.isNone = false := by cases hbd : fn.body with
                | none => rw [hbd] at hb; cases hb
                | some c => rfl
              simp only [invoke, callFunc, program, Sem.run_bind, Sem.run_pure, Result.andThen_ok, Sem.run]
              simp only [hfn, hn, Bool.false_eq_true, if_false]
              simp only [hni, Bool.false_eq_true, if_false, Sem.run_pure]
              simp
            · cases hb
          · simp only [execOp, ho, resolve, hX, Deferred.ofValue, Sem.run_bind, Sem.run_pure, Result.andThen_ok]
            simp
      · cases h
    · cases h
  · cases h

/-- A region's operations in their order. -/
theorem runOps_ok (hE : EnvOk P E) (hc : CallOk P call) {ops : Array Oper} {Q : Exit → Act → World → Prop} : ∀ (l : List Oper) (st st' : St) (ρ : Ren) (a : Act) (w : World), Leads (runOps P E call ops.toList l st) st' →
    Rel ρ st.mem w → TR ρ st.tm a.tmps → (∀ ρ' a' w', Tr ρ st.mem w ρ' st'.mem w' → TR ρ' st'.tm a'.tmps → Idles P a a' → Q .normal a' w') → wpList P ops Q l a w
  | [], st, st', ρ, a, w, h, hr, htr, hQ => by
    have h := h.ret_inv
    subst h
    exact wpList_nil (hQ ρ a w (.refl hr) htr (.refl a))
  | o :: l, st, st', ρ, a, w, h, hr, htr, hQ => by
    have next : ∀ {tm : List V}, TR ρ tm a.tmps → Leads ((op1 P E call o { st with tm := tm }).bind fun st => runOps P E call ops.toList l st) st' → ∀ K : Act → World → Prop, (∀ a w, wpList P ops Q l a w → K a w) → o.wp P a w K Q := by
      intro tm htm h1 K hK
      obtain ⟨st1, h2, h3⟩ := h1.bind_inv
      refine op1_ok hE hc h2 hr htm fun ρ1 x w1 t1 htr1 => hK _ _ ?_
      exact runOps_ok hE hc l st1 st' ρ1 _ w1 h3 t1.rel htr1 fun ρ2 a2 w2 t2 htr2 hd2 => hQ ρ2 a2 w2 (t1.trans t2) htr2 ((Idles.of_eq (Act.put_defers' _ _ _)).trans hd2)
    refine wpList_step fun K hK => ?_
    change Leads (runOps1 P E call ops.toList o (runOps P E call ops.toList l) st) st' at h
    unfold runOps1 at h
    split at h
    · rename_i hg
      rw [if_pos (by simp [Region.wanted, hg])]
      cases hdf : isDefer o.op with
      | false => rw [hdf] at h; exact next htr h K hK
      | true =>
        rw [hdf] at h
        simp only [cond_true] at h
        cases hdo : deferOf P E st.tm o.op with
        | false => rw [hdo] at h; exact h.fail_inv.elim
        | true =>
          rw [hdo] at h
          simp only [cond_true] at h
          obtain ⟨d, hd, hw⟩ := deferOf_spec hE htr hdo
          unfold Oper.wp
          rw [hw w, Oper.upon_defer]
          have hx : R ρ (.tuple []) undef := .tuple [] [] .nil
          have hm : (st.put o.dst (.tuple [])).mem = st.mem := by cases o.dst <;> rfl
          refine hK _ _ ?_
          refine runOps_ok hE hc l _ st' ρ _ w h (by rw [hm]; exact hr) (TR.put (a := { a with defers := d :: a.defers }) htr o.dst hx st.mem) fun ρ2 a2 w2 t2 htr2 hd2 => hQ ρ2 a2 w2 (by rw [hm] at t2; exact t2) htr2 (Idles.trans (fun q => ?_) hd2)
          rw [Act.put_defers']
          intro d' hd'
          rcases List.mem_cons.1 hd' with rfl | hd'
          · exact hd
          · exact q d' hd'
    · rename_i j want hg
      obtain ⟨⟨r, tm'⟩, h1, h2⟩ := h.bind_inv
      obtain ⟨hy, htm⟩ := guardV_spec h1 htr
      have hw : Region.wanted o (yielded ops a.tmps) = r := by simp only [Region.wanted, hg]; exact hy
      rw [hw]
      cases r with
      | true =>
        simp only [cond_true] at h2
        rw [if_pos rfl]
        exact next htm h2 K hK
      | false =>
        simp only [cond_false] at h2
        rw [if_neg (by simp)]
        refine hK _ _ ?_
        have hx : R ρ (.tuple []) undef := .tuple [] [] .nil
        have hm : ((St.mk tm' st.mem).put o.dst (.tuple [])).mem = st.mem := by cases o.dst <;> rfl
        refine runOps_ok hE hc l _ st' ρ _ w h2 (by rw [hm]; exact hr) (htm.put o.dst hx st.mem) fun ρ2 a2 w2 t2 htr2 hd2 => hQ ρ2 a2 w2 (by rw [hm] at t2; exact t2) htr2 ((Idles.of_eq (Act.put_defers' _ _ _)).trans hd2)
end

end Go.X
