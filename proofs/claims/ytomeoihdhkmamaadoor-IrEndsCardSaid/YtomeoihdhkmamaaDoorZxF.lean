/- Operations that leave memory alone, one by one. -/
import Derived.LaidEql
import Derived.Test.YtomeoihdhkmamaaDoorZxE
set_option linter.unusedVariables false
set_option linter.unusedSimpArgs false
namespace Go.X
open Go.RowKit (Below)

theorem isPtrT_spec {P : Program} {t : TypeId} (h : isPtrT P t = true) : ∃ e, P.underlying t = some (.pointer e) := by
  unfold isPtrT at h; split at h
  · rename_i e hu; exact ⟨e, hu⟩
  · cases h
theorem isPtrI_spec {P : Program} {t : TypeId} (h : isPtrI P t = true) : ∃ e, P.underlying t = some (.pointer e) ∧ ∃ j, P.info? e = some j := by
  unfold isPtrI at h; split at h
  · rename_i e hu; exact ⟨e, hu, Option.isSome_iff_exists.1 h⟩
  · cases h
theorem isFuncT_spec {P : Program} {t : TypeId} (h : isFuncT P t = true) : ∃ a b c, P.underlying t = some (.func a b c) := by
  unfold isFuncT at h; split at h
  · rename_i a b c hu; exact ⟨a, b, c, hu⟩
  · cases h
theorem isSliceT_spec {P : Program} {t : TypeId} (h : isSliceT P t = true) : ∃ e, P.underlying t = some (.slice e) := by
  unfold isSliceT at h; split at h
  · rename_i e hu; exact ⟨e, hu⟩
  · cases h
theorem isBoolT_spec {P : Program} {t : TypeId} (h : isBoolT P t = true) : P.underlying t = some .bool := by
  unfold isBoolT at h; split at h
  · assumption
  · cases h

theorem bif_some {α : Type} {b : Bool} {x : α} {y : α} (h : (bif b then some x else none) = some y) : b = true ∧ x = y := by
  cases b with
  | true => exact ⟨rfl, by simpa using h⟩
  | false => cases h

theorem eq_of_equalIn {P : Program} {t : TypeId} {xo yo : Operand} {X Y : Value} {r : Bool} {w : World} (hr : (Op.equalIn 10000 t X Y).run P w = .ok r w)
    (h1 : eqGuard .eql t xo yo X Y = pure ()) (h2 : eqGuard .neq t xo yo X Y = pure ())
    (h3 : binOp .eql t X Y = (do pure (.bool (← Op.equal t X Y)))) (h4 : binOp .neq t X Y = (do pure (.bool (!(← Op.equal t X Y))))) :
    (do eqGuard .eql t xo yo X Y; binOp .eql t X Y : Sem Value).run P w = .ok (.bool r) w ∧ (do eqGuard .neq t xo yo X Y; binOp .neq t X Y : Sem Value).run P w = .ok (.bool (!r)) w := by
  have hr' : (Op.equal t X Y).run P w = .ok r w := hr
  rw [h1, h2, h3, h4]
  simp only [Sem.run_bind, Sem.run_pure, Result.andThen_ok, hr', and_self]

section
variable {P : Program} {t : TypeId} {w : World}
theorem eqn_bool (hu : P.underlying t = some .bool) (a b : Bool) : (Op.equalIn 10000 t (.bool a) (.bool b)).run P w = .ok (a == b) w := run_equalIn_bool' w 9999 t a b hu
theorem eqn_nn (d : Nat) {e : TypeId} (hu : P.underlying t = some (.pointer e)) : (Op.equalIn (d + 1) t (.pointer none) (.pointer none)).run P w = .ok true w := by
  simp only [Op.equalIn, Sem.run_bind, run_underlying hu, Result.andThen_ok]; rfl
theorem eqn_np (d : Nat) {e : TypeId} (hu : P.underlying t = some (.pointer e)) (a : Addr) : (Op.equalIn (d + 1) t (.pointer none) (.pointer (some a))).run P w = .ok false w := by
  simp only [Op.equalIn, Sem.run_bind, run_underlying hu, Result.andThen_ok]; rfl
theorem eqn_pp (d : Nat) {e : TypeId} {j : TypeInfo} (hu : P.underlying t = some (.pointer e)) (hj : P.info? e = some j) (a : Addr) : (Op.equalIn (d + 1) t (.pointer (some a)) (.pointer (some a))).run P w = .ok true w := by
  simp [Op.equalIn, run_underlying hu, sizeOf, typeInfo, hj, run_sameAddr_same]
theorem eqn_pn (d : Nat) {e : TypeId} (hu : P.underlying t = some (.pointer e)) (a : Addr) : (Op.equalIn (d + 1) t (.pointer (some a)) (.pointer none)).run P w = .ok false w := by
  simp only [Op.equalIn, Sem.run_bind, run_underlying hu, Result.andThen_ok]; rfl
theorem eqn_ff (d : Nat) {a b : Array TypeId} {c : Bool} (hu : P.underlying t = some (.func a b c)) : (Op.equalIn (d + 1) t .nilFunc .nilFunc).run P w = .ok true w := by
  simp only [Op.equalIn, Sem.run_bind, run_underlying hu, Result.andThen_ok]; rfl
theorem eqn_fg (d : Nat) {a b : Array TypeId} {c : Bool} (hu : P.underlying t = some (.func a b c)) (f : Fn) (p q : Array Value) : (Op.equalIn (d + 1) t .nilFunc (.func f p q)).run P w = .ok false w := by
  simp only [Op.equalIn, Sem.run_bind, run_underlying hu, Result.andThen_ok]; rfl
theorem eqn_gf (d : Nat) {a b : Array TypeId} {c : Bool} (hu : P.underlying t = some (.func a b c)) (f : Fn) (p q : Array Value) : (Op.equalIn (d + 1) t (.func f p q) .nilFunc).run P w = .ok false w := by
  simp only [Op.equalIn, Sem.run_bind, run_underlying hu, Result.andThen_ok]; rfl
theorem eqn_ss (d : Nat) {e : TypeId} (hu : P.underlying t = some (.slice e)) (a : Option Addr) (n m : Nat) : (Op.equalIn (d + 1) t (.slice none n m) (.slice a n m)).run P w = .ok a.isNone w := by
  simp only [Op.equalIn, Sem.run_bind, run_underlying hu, Result.andThen_ok]; rfl
theorem eqn_sn (d : Nat) {e : TypeId} (hu : P.underlying t = some (.slice e)) (a : Addr) (n m p q : Nat) : (Op.equalIn (d + 1) t (.slice (some a) n m) (.slice none p q)).run P w = .ok false w := by
  simp only [Op.equalIn, Sem.run_bind, run_underlying hu, Result.andThen_ok]; rfl
end

/-- '==' and '!=', guard and all. -/
theorem eqV_spec {P : Program} {ρ : Ren} {eqs : List TypeId} (hE : EqsOk P eqs) {t : TypeId} {x y : V} {X Y : Value} {r sy : Bool} (xo yo : Operand) (h : eqV P eqs t x y = some (r, sy)) (hx : R ρ x X) (hy : R ρ y Y) (w : World) :
    (do eqGuard .eql t xo yo X Y; binOp .eql t X Y : Sem Value).run P w = .ok (.bool r) w ∧ (do eqGuard .neq t xo yo X Y; binOp .neq t X Y : Sem Value).run P w = .ok (.bool (!r)) w := by
  have B : ∀ {b : Bool} {p q : Bool × Bool}, (bif b then some p else none) = some q → b = true ∧ p = q := fun h => bif_some h
  unfold eqV at h
  split at h
  · obtain ⟨hb, h⟩ := B h; cases h; cases hx; cases hy; exact eq_of_equalIn (eqn_bool (isBoolT_spec hb) _ _) rfl rfl rfl rfl
  · obtain ⟨hb, h⟩ := B h; cases h; cases hx; cases hy; exact eq_of_equalIn (eqn_bool (isBoolT_spec hb) _ _) rfl rfl rfl rfl
  · obtain ⟨hb, h⟩ := B h; cases h; cases hx; cases hy; exact eq_of_equalIn (eqn_bool (isBoolT_spec hb) _ _) rfl rfl rfl rfl
  · obtain ⟨hb, h⟩ := B h; cases h; cases hx; cases hy; exact eq_of_equalIn (eqn_bool (isBoolT_spec hb) _ _) rfl rfl rfl rfl
  · simp only [Option.some.injEq, Prod.mk.injEq] at h
    obtain ⟨rfl, rfl⟩ := h
    cases hx; cases hy
    exact ⟨rfl, rfl⟩
  · obtain ⟨hb, h⟩ := B h; obtain ⟨e, hu⟩ := isPtrT_spec hb; cases h; cases hx; cases hy; exact eq_of_equalIn (eqn_nn 9999 hu) rfl rfl rfl rfl
  · obtain ⟨hb, h⟩ := B h; obtain ⟨e, hu⟩ := isPtrT_spec hb; cases h; cases hx; cases hy; exact eq_of_equalIn (eqn_np 9999 hu _) rfl rfl rfl rfl
  · rename_i aa bb
    obtain ⟨hb, h⟩ := B h
    simp only [Bool.and_eq_true] at hb
    obtain ⟨hu, q1, q2, q3, q4, q5⟩ := hb
    obtain ⟨e, hu, j, hj⟩ := isPtrI_spec hu
    have q1 := beq_eq q1; have q2 := beq_eq q2; have q3 := beq_eq q3; have q4 := beq_eq q4; have q5 := beq_eq q5
    cases h
    cases hx with
    | ptr a b1 h1 =>
      cases hy with
      | ptr a b2 h2 =>
        rw [← q1, ← q2] at h2
        rw [h1] at h2
        cases h2
        rw [q4, q5, q3, q1, Nat.mul_zero, Nat.mul_zero]
        exact eq_of_equalIn (eqn_pp 9999 hu hj _) rfl rfl rfl rfl
  · obtain ⟨hb, h⟩ := B h; obtain ⟨e, hu⟩ := isPtrT_spec hb; cases h; cases hx; cases hy; exact eq_of_equalIn (eqn_pn 9999 hu _) rfl rfl rfl rfl
  · rename_i nn aa
    obtain ⟨hb, h⟩ := B h; obtain ⟨e, hu⟩ := isPtrT_spec hb
    simp only [Prod.mk.injEq] at h; obtain ⟨rfl, rfl⟩ := h
    cases hx
    cases hy with
    | sptr n a b hb' => cases nn; exact eq_of_equalIn (eqn_np 9999 hu _) rfl rfl rfl rfl; exact eq_of_equalIn (eqn_nn 9999 hu) rfl rfl rfl rfl
  · rename_i nn aa
    obtain ⟨hb, h⟩ := B h; obtain ⟨e, hu⟩ := isPtrT_spec hb
    simp only [Prod.mk.injEq] at h; obtain ⟨rfl, rfl⟩ := h
    cases hy
    cases hx with
    | sptr n a b hb' => cases nn; exact eq_of_equalIn (eqn_pn 9999 hu _) rfl rfl rfl rfl; exact eq_of_equalIn (eqn_nn 9999 hu) rfl rfl rfl rfl
  · obtain ⟨hb, h⟩ := B h; obtain ⟨_, _, _, hu⟩ := isFuncT_spec hb; cases h; cases hx; cases hy; exact eq_of_equalIn (eqn_ff 9999 hu) rfl rfl rfl rfl
  · obtain ⟨hb, h⟩ := B h; obtain ⟨_, _, _, hu⟩ := isFuncT_spec hb; cases h; cases hx; cases hy; exact eq_of_equalIn (eqn_fg 9999 hu _ _ _) rfl rfl rfl rfl
  · obtain ⟨hb, h⟩ := B h; obtain ⟨_, _, _, hu⟩ := isFuncT_spec hb; cases h; cases hx; cases hy; exact eq_of_equalIn (eqn_gf 9999 hu _ _ _) rfl rfl rfl rfl
  · obtain ⟨hb, h⟩ := B h; obtain ⟨e, hu⟩ := isSliceT_spec hb; cases h; cases hx; cases hy; exact eq_of_equalIn (eqn_ss 9999 hu none 0 0) rfl rfl rfl rfl
  · obtain ⟨hb, h⟩ := B h; obtain ⟨e, hu⟩ := isSliceT_spec hb; cases h
    cases hy
    cases hx with
    | slice a n c' c sy b hb' hc he => exact eq_of_equalIn (eqn_sn 9999 hu _ _ _ _ _) rfl rfl rfl rfl
    | empty a x c sy hx he =>
      cases x with
      | none => exact absurd (hx rfl) (by simp)
      | some x => exact eq_of_equalIn (eqn_sn 9999 hu _ _ _ _ _) rfl rfl rfl rfl
  · cases h

theorem T.needO_inv {α : Type} {o : Option Prop} {t : T α} {a : α} (h : Leads (T.needO o t) a) : holdsO o ∧ Leads t a := by
  cases o with
  | none => exact ⟨trivial, h⟩
  | some p => exact h.need_inv

theorem eqAgg_spec {P : Program} {ρ : Ren} {eqs : List TypeId} (hE : EqsOk P eqs) {t : TypeId} {xs ys : List V} {X Y : Value} {r : Bool} (xo yo : Operand) (h : Leads (eqAgg P eqs t xs ys) r) (hx : R ρ (.agg xs) X) (hy : R ρ (.agg ys) Y) (w : World) :
    (do eqGuard .eql t xo yo X Y; binOp .eql t X Y : Sem Value).run P w = .ok (.bool r) w ∧ (do eqGuard .neq t xo yo X Y; binOp .neq t X Y : Sem Value).run P w = .ok (.bool (!r)) w := by
  unfold eqAgg at h
  cases he : eqs.any (Nat.beq t) with
  | false => rw [he] at h; exact h.fail_inv.elim
  | true =>
    rw [he] at h
    simp only [cond_true] at h
    obtain ⟨⟨o, r'⟩, h1, h2⟩ := h.bind_inv
    obtain ⟨ho, h2⟩ := T.needO_inv h2
    have h2 := h2.ret_inv
    subst h2
    have ok := hE t he
    cases hx with
    | agg cs xs hx =>
      cases hy with
      | agg ds ys hy =>
        have hag := ok.agg
        have hq := eqTy_spec hE 20 10000 (by omega) t _ _ _ _ _ _ _ w h1.opt_inv ho hx hy (.inl ⟨hag, rfl⟩) (.inl ⟨hag, rfl⟩)
        simp only [Sem.run_bind, run_eqGuard_agg w _ t xo yo _ _ ok.guard, run_eql_struct, run_neq_struct, hq, Result.andThen_ok, and_self]

theorem strOp_spec {P : Program} {ρ : Ren} {op : BinOp} {a b : ByteArray} {sy : Bool} {v : V} (h : Leads (strOp op a b sy) v) :
    ∃ z, R ρ v z ∧ ∀ w, (Op.stringOp op a b).run P w = .ok z w := by
  unfold strOp at h
  split at h
  · obtain ⟨h0, h⟩ := h.ask_inv
    rw [h.ret_inv]
    refine ⟨_, .str _ _, fun w => ?_⟩
    have h' : ¬ (((a.size + b.size : Nat) : Int) > IntKind.i64.max) := by
      have : IntKind.i64.max = 9223372036854775807 := by decide
      rw [this]
      omega
    simp only [Op.stringOp]
    rw [if_neg h']
    rfl
  · exact h.fail_inv.elim

theorem binV_spec {P : Program} {ρ : Ren} {eqs : List TypeId} (hE : EqsOk P eqs) {op : BinOp} {t : TypeId} {x y v : V} {X Y : Value} (xo yo : Operand) (h : Leads (binV P eqs op t x y) v) (hx : R ρ x X) (hy : R ρ y Y) :
    ∃ z, R ρ v z ∧ ∀ w, (do eqGuard op t xo yo X Y; binOp op t X Y : Sem Value).run P w = .ok z w := by
  unfold binV at h
  split at h
  · rename_i k a s k' b s' h1 h2
    rw [isInt_spec h1 hx, isInt_spec h2 hy]
    obtain ⟨z, hz, hw⟩ := intOp_spec (P := P) (ρ := ρ) (t := t) h
    exact ⟨z, hz, fun w => by rw [eqGuard_at_int]; simp [hw]⟩
  · split at h
    · split at h
      · obtain ⟨r, h1, h2⟩ := h.bind_inv
        rw [h2.ret_inv]
        exact ⟨_, .sbool r, fun w => (eqAgg_spec hE xo yo h1 hx hy w).1⟩
      · obtain ⟨⟨r, sy⟩, h1, h2⟩ := h.bind_inv
        rw [h2.ret_inv]
        exact ⟨_, mkBool_spec .., fun w => (eqV_spec hE xo yo h1.opt_inv hx hy w).1⟩
    · split at h
      · obtain ⟨r, h1, h2⟩ := h.bind_inv
        rw [h2.ret_inv]
        exact ⟨_, .sbool (!r), fun w => (eqAgg_spec hE xo yo h1 hx hy w).2⟩
      · obtain ⟨⟨r, sy⟩, h1, h2⟩ := h.bind_inv
        rw [h2.ret_inv]
        exact ⟨_, mkBool_spec .., fun w => (eqV_spec hE xo yo h1.opt_inv hx hy w).2⟩
    · split at h
      · cases hx; cases hy
        obtain ⟨z, hz, hw⟩ := strOp_spec (P := P) (ρ := ρ) h
        refine ⟨z, hz, fun w => ?_⟩
        have e : ∀ a b : ByteArray, binOp op t (.string a) (.string b) = Op.stringOp op a b := by intro a b; cases op <;> rfl
        rw [eqGuard_at_string]
        simp [e, hw]
      · exact h.fail_inv.elim

theorem unV_spec {P : Program} {ρ : Ren} {op : UnOp} {x v : V} {X : Value} (h : Leads (unV op x) v) (hx : R ρ x X) : ∃ z, R ρ v z ∧ ∀ w, (Op.unary op X).run P w = .ok z w := by
  unfold unV at h
  split at h
  · rw [h.ret_inv]; cases hx; exact ⟨_, .bool _, fun w => rfl⟩
  · rw [h.ret_inv]; cases hx; exact ⟨_, .sbool _, fun w => rfl⟩
  · rw [h.ret_inv]; cases hx; exact ⟨_, .int _ _, fun w => rfl⟩
  · rw [h.ret_inv]; cases hx; exact ⟨_, .sint _ _, fun w => rfl⟩
  · rw [h.ret_inv]; cases hx; exact ⟨_, .int _ _, fun w => rfl⟩
  · rw [h.ret_inv]; cases hx; exact ⟨_, .sint _ _, fun w => rfl⟩
  · exact h.fail_inv.elim

theorem convV_spec {P : Program} {ρ : Ren} {s d : TypeId} {x v : V} {X : Value} (h : Leads (convV P s d x) v) (hx : R ρ x X) : ∃ z, R ρ v z ∧ ∀ w, (convert s d X).run P w = .ok z w := by
  unfold convV at h
  split at h
  · rename_i k _ n hs hd
    rw [h.ret_inv]; cases hx
    exact ⟨_, .int _ _, fun w => by simp [convert, run_underlying hs, run_underlying hd, Conv.intToInt]⟩
  · rename_i k _ n hs hd
    rw [h.ret_inv]; cases hx
    exact ⟨_, .sint _ _, fun w => by simp [convert, run_underlying hs, run_underlying hd, Conv.intToInt]⟩
  · rename_i _ _ hs hd
    rw [h.ret_inv]; cases hx
    exact ⟨_, .str _ _, fun w => by simp [convert, run_underlying hs, run_underlying hd]⟩
  · exact h.fail_inv.elim

theorem field?_spec {P : Program} {t : TypeId} {f : Nat} {fd : Field} (h : field? P t f = some fd) : ∃ fs, P.underlying t = some (.struct fs) ∧ fs[f]? = some fd := by
  unfold field? at h
  split at h
  · rename_i fs hu
    rw [objL_toList] at h
    exact ⟨fs, hu, by simpa using h⟩
  · cases h

theorem add_real (b o k : Nat) : (⟨b, o, none⟩ : Addr).add k = ⟨b, o + k, none⟩ := by unfold Addr.add; split <;> simp_all

theorem fieldAddrV_spec {P : Program} {ρ : Ren} {t : TypeId} {x v : V} {f : Nat} {X : Value} (h : Leads (fieldAddrV P t x f) v) (hx : R ρ x X) : ∃ z, R ρ v z ∧ ∀ w, (Instr.fieldAt t X f).run P w = .ok z w := by
  unfold fieldAddrV at h
  split at h
  · rename_i fd a hf
    split at h
    · rename_i sz hsz
      rw [h.ret_inv]
      cases hx with
      | ptr a b hb =>
        obtain ⟨fs, hu, hfd⟩ := field?_spec hf
        refine ⟨_, .ptr _ b (by exact hb), fun w => ?_⟩
        simp only [Instr.fieldAt, Sem.run_bind, run_underlying hu, Result.andThen_ok, hfd, Instr.sureAddr, Sem.run_pure, fieldPlace, run_sizeOf hsz]
        simp only [Nat.succ_ne_zero, if_false, Sem.run_pure, Result.andThen_ok, add_real]
        congr 4
        omega
    · exact h.fail_inv.elim
  · exact h.fail_inv.elim

theorem array_sz {P : Program} {t : TypeId} {n : Nat} {e : TypeId} (hu : P.underlying t = some (.array n e)) (w : World) : (underlying t).run P w = .ok (.array n e) w := run_underlying hu w

theorem indexAddrV_spec {P : Program} {ρ : Ren} {t : TypeId} {x ix v : V} {X I : Value} (h : Leads (indexAddrV P t x ix) v) (hx : R ρ x X) (hi : R ρ ix I) : ∃ z, R ρ v z ∧ ∀ w, (Instr.indexAt t X I).run P w = .ok z w := by
  unfold indexAddrV at h
  split at h
  · rename_i k i sy h1
    rw [isInt_spec h1 hi]
    split at h
    · rename_i n e a hu
      split at h
      · rename_i sz hsz
        cases hx with
        | ptr a b hb =>
          cases sy with
          | true =>
            simp only [cond_true] at h
            obtain ⟨h0, h⟩ := h.need_inv
            obtain ⟨a', h2, h⟩ := h.bind_inv
            have h2 := h2.opt_inv
            rw [h.ret_inv]
            split at h2
            · rename_i hs
              simp only [Option.some.injEq] at h2
              subst h2
              refine ⟨_, .ptr _ b (by exact hb), fun w => ?_⟩
              simp only [Instr.indexAt, asIntOf, Sem.run_bind, Sem.run_pure, Result.andThen_ok, run_underlying hu, Instr.sureAddr, run_sizeOf hsz]
              rw [if_pos h0]
              simp only [Sem.run_bind, run_sizeOf hsz, Sem.run_pure, Result.andThen_ok, add_real]
              congr 4
              rw [hs]; omega
            · cases h2
          | false =>
            simp only [cond_false] at h
            obtain ⟨h0, h⟩ := h.ask_inv
            rw [h.ret_inv]
            refine ⟨_, .ptr _ b (by exact hb), fun w => ?_⟩
            simp only [Instr.indexAt, asIntOf, Sem.run_bind, Sem.run_pure, Result.andThen_ok, run_underlying hu, Instr.sureAddr, run_sizeOf hsz]
            rw [if_pos h0]
            simp only [Sem.run_bind, run_sizeOf hsz, Sem.run_pure, Result.andThen_ok, add_real]
            congr 4
            omega
      · exact h.fail_inv.elim
    · rename_i e a n c sy' hu
      split at h
      · rename_i sz hsz
        have fin : ∀ (a' : A) (b : Nat), (0 ≤ i ∧ i < (n : Int)) → ρ a'.id a'.j = some b → a'.o + a'.i * a'.s = a.o + a.i * a.s + i.toNat * sz → a'.id = a.id → ∀ c', 
            ∃ z, R ρ (.ptr a') z ∧ ∀ w, (Instr.indexAt t (.slice (some ⟨b, (ρ.k a.id).2 + (a.o + a.i * a.s), none⟩) n c') (.int k i)).run P w = .ok z w := by
          intro a' b h0 hb he hid c'
          refine ⟨_, .ptr _ b hb, fun w => ?_⟩
          simp only [Instr.indexAt, asIntOf, Sem.run_bind, Sem.run_pure, Result.andThen_ok, run_underlying hu, run_sizeOf hsz]
          rw [if_pos h0]
          simp only [Sem.run_bind, run_sizeOf hsz, Sem.run_pure, Result.andThen_ok, add_real]
          rw [he, hid]
          congr 4
          omega
        cases hx with
        | slice a n c' c sy' b hb hc he =>
          cases hq : (sy || sy') with
          | true =>
            simp only [hq, cond_true] at h
            obtain ⟨h0, h⟩ := h.need_inv
            obtain ⟨a', h2, h⟩ := h.bind_inv
            have h2 := h2.opt_inv
            rw [h.ret_inv]
            unfold idxA at h2
            split at h2
            · rename_i hs
              simp only [Option.some.injEq] at h2
              subst h2
              exact fin { a with i := i.toNat, s := sz } b h0 hb (by simp only [hs]; omega) rfl c'
            · rename_i s hs
              obtain ⟨hss, h2⟩ := bif_some h2
              subst h2
              have := beq_eq hss
              exact fin { a with i := a.i + i.toNat } b h0 hb (by simp only [hs, Nat.succ_eq_add_one, Nat.add_mul]; rw [← this]; omega) rfl c'
          | false =>
            simp only [hq, cond_false] at h
            obtain ⟨h0, h⟩ := h.ask_inv
            rw [h.ret_inv]
            exact fin { a with o := a.o + i.toNat * sz } b h0 hb (by simp only; omega) rfl c'
        | empty a x c sy' hx he =>
          cases hq : (sy || sy') with
          | true =>
            simp only [hq, cond_true] at h
            obtain ⟨h0, h⟩ := h.need_inv
            have := h0.2
            omega
          | false =>
            simp only [hq, cond_false] at h
            obtain ⟨h0, h⟩ := h.ask_inv
            have := h0.2
            omega
      · exact h.fail_inv.elim
    · exact h.fail_inv.elim
  · exact h.fail_inv.elim

theorem fieldV_spec {P : Program} {ρ : Ren} {t : TypeId} {x v : V} {f : Nat} {X : Value} (h : Leads (fieldV P t x f) v) (hx : R ρ x X) : ∃ z, R ρ v z ∧ ∀ w, (Instr.field t X f).run P w = .ok z w := by
  unfold fieldV at h
  split at h
  · rename_i fd cs hf
    split at h
    · rename_i sz bb hsz hag
      obtain ⟨ms, h1, h2⟩ := h.bind_inv
      obtain ⟨fs, hu, hfd⟩ := field?_spec hf
      cases hx with
      | agg cs xs hc =>
        obtain ⟨ys, us, zs, rfl, e1, e2, e3⟩ := ldC_spec h1.opt_inv hc
        cases bb with
        | true =>
          refine ⟨_, asV_true h2 e3, fun w => ?_⟩
          simp only [Instr.field, Sem.run_bind, run_underlying hu, Result.andThen_ok, hfd, asAgg, Sem.run_pure]
          exact (run_part hag hsz e1 e2).1 rfl
        | false =>
          obtain ⟨x, rfl, hx⟩ := asV_false h2 e3 (by simpa using e2)
          refine ⟨_, hx, fun w => ?_⟩
          simp only [Instr.field, Sem.run_bind, run_underlying hu, Result.andThen_ok, hfd, asAgg, Sem.run_pure]
          exact (run_part hag hsz e1 e2).2 rfl x rfl
    · exact h.fail_inv.elim
  · exact h.fail_inv.elim

theorem indexV_spec {P : Program} {ρ : Ren} {t : TypeId} {x ix v : V} {X I : Value} (h : Leads (indexV P t x ix) v) (hx : R ρ x X) (hi : R ρ ix I) : ∃ z, R ρ v z ∧ ∀ w, (Instr.index t X I).run P w = .ok z w := by
  unfold indexV at h
  split at h
  · rename_i k i sy h1
    rw [isInt_spec h1 hi]
    split at h
    · rename_i n e cs hu
      split at h
      · rename_i sz bb hsz hag
        have hh : (0 ≤ i ∧ i < n) ∧ Leads ((opt (ldC cs (i.toNat * sz) (bif bb then sz else 1))).bind (asV bb)) v := by
          cases sy with
          | true =>
            simp only [cond_true] at h
            obtain ⟨h0, h⟩ := h.need_inv
            obtain ⟨m, rfl, g⟩ := chainT_inv _ _ h
            exact ⟨h0, by rw [Int.toNat_natCast]; exact g⟩
          | false =>
            simp only [cond_false] at h
            exact h.ask_inv
        clear h
        obtain ⟨h0, h⟩ := hh
        · 
          obtain ⟨ms, h1, h2⟩ := h.bind_inv
          cases hx with
          | agg cs xs hc =>
            obtain ⟨ys, us, zs, rfl, e1, e2, e3⟩ := ldC_spec h1.opt_inv hc
            cases bb with
            | true =>
              refine ⟨_, asV_true h2 e3, fun w => ?_⟩
              simp only [Instr.index, asIntOf, Sem.run_bind, Sem.run_pure, run_underlying hu, Result.andThen_ok]
              rw [if_pos h0]
              simp only [Sem.run_bind, run_sizeOf hsz, Result.andThen_ok]
              exact (run_part hag hsz e1 e2).1 rfl
            | false =>
              obtain ⟨x, rfl, hx⟩ := asV_false h2 e3 (by simpa using e2)
              refine ⟨_, hx, fun w => ?_⟩
              simp only [Instr.index, asIntOf, Sem.run_bind, Sem.run_pure, run_underlying hu, Result.andThen_ok]
              rw [if_pos h0]
              simp only [Sem.run_bind, run_sizeOf hsz, Result.andThen_ok]
              exact (run_part hag hsz e1 e2).2 rfl x rfl
      · exact h.fail_inv.elim
    · rename_i s sy' hu
      obtain ⟨h0, h⟩ := h.ask_inv
      rw [h.ret_inv]
      cases hx
      refine ⟨_, mkInt_spec .., fun w => ?_⟩
      have hlt : i.toNat < s.size := by have := h0.2; have := h0.1; omega
      simp only [Instr.index, asIntOf, Sem.run_bind, Sem.run_pure, run_underlying hu, Result.andThen_ok, h0.1, if_true]
      have e : s[i.toNat]? = some (s.data.toList.getD i.toNat 0) := by
        have h3 : i.toNat < s.data.toList.length := by simpa using hlt
        rw [List.getD_eq_getElem?_getD, List.getElem?_eq_getElem h3]
        rw [getElem?_pos s i.toNat hlt]
        simp
        rfl
      rw [e]
      rfl
    · exact h.fail_inv.elim
  · exact h.fail_inv.elim

end Go.X
