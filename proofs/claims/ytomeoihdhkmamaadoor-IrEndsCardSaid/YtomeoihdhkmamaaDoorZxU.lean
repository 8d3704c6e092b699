/- What package strings does behind a Builder's back is right. -/
import Derived.Test.YtomeoihdhkmamaaDoorZxI
import Derived.Lib.Builder
import Derived.Lib.UnsafeStr
import Derived.Laws.Externs
set_option linter.unusedVariables false
set_option linter.unusedSimpArgs false
namespace Go.X
open Go.RowKit (Below)

/-- A block whose object is anew. -/
theorem turn_tr {ρ : Ren} {m : Mem} {w w' : World} (hr : Rel ρ m w) {id b : Nat} {e e2 : TypeId} {sp sp' wr' : Bool} {vs vs' : List V} {xs tl : List Value} {fz : Nat × Nat} (ho : objL m.objs id = some (.cells true e sp vs)) (hb' : ρ id 0 = some b)
    (h1 : w'.os = w.os) (h2 : w'.tape = w.tape) (h3 : w'.output = w.output) (h4 : w'.heap.size = w.heap.size) (h5 : ∀ q, q ≠ b → w'.heap[q]? = w.heap[q]?) (h6 : w'.heap[b]? = some (.cells (xs ++ tl).toArray e2 fz)) (hc : C ρ vs' xs)
    (htl : sp' = false → tl = []) (hw : wr' = true → e2 = e ∧ fz = (0, 0) ∧ ((xs ++ tl).length, 0) = ρ.k id) :
    Tr ρ m w ρ { objs := setL m.objs id (.cells wr' e sp' vs'), low := min m.low id } w' := by
  have hother : ∀ {id' j : Nat} {o : O} {q : Nat}, objL m.objs id' = some o → o.has j → (id' ≠ id ∨ j ≠ 0) → ρ id' j = some q → q ≠ b := by
    intro id' j o q h1 h2 h3 h4 h5
    subst h5
    exact hr.inj id 0 id' j _ o q ho h1 rfl h2 (by rcases h3 with h3 | h3; exact .inl (Ne.symm h3); exact .inr (Ne.symm h3)) rfl hb' h4
  have hlt : id < m.objs.length := objL_lt ho
  have hk2 : (ρ.k id).2 = 0 := by
    obtain ⟨_, _, _, _, _, _, _, _, _, g⟩ := (ORel.wr_inv (hr.objs _ _ ho)).resolve_left (fun q => by rw [q.1] at hb'; cases hb')
    rw [← (g rfl).2.2]
  refine ⟨⟨fun id' o h => ?_, fun i j i' j' o o' q h7 h8 h9 h10 h11 h12 h13 h14 => ?_, fun id' j q h => ?_⟩, .refl _ _ _ _, ⟨h1, h2, h3, Nat.le_of_eq h4.symm, fun q hq hnq => ?_⟩, Nat.min_le_left _ _, by simp [setL_length]⟩
  · simp only [objL_setL] at h
    split at h
    · rename_i hid
      simp only [Option.some.injEq] at h
      subst h
      rw [← hid.1]
      exact .inr ⟨b, [], xs, tl, e2, fz, hb', hk2.symm, hc, h6, htl, hw⟩
    · rename_i hid
      refine (hr.objs id' o h).keep (.refl ρ) (fun _ _ q => q) (fun j q hj hq => h5 q (hother h hj ?_ hq))
      exact .inl (fun hne => hid ⟨hne.symm, hlt⟩)
  · have hold : ∀ {id' : Nat} {o : O} {j : Nat}, objL (setL m.objs id (O.cells wr' e sp' vs')) id' = some o → o.has j → ∃ o2, objL m.objs id' = some o2 ∧ o2.has j ∧ (o.wr → o2.wr) := by
      intro id' o j k1 k2
      rw [objL_setL] at k1
      split at k1
      · rename_i hid
        simp only [Option.some.injEq] at k1
        subst k1
        exact ⟨O.cells true e sp vs, by rw [← hid.1]; exact ho, k2, fun _ => rfl⟩
      · exact ⟨o, k1, k2, fun q => q⟩
    obtain ⟨o2, k1, k2, k3⟩ := hold h7 h9
    obtain ⟨o3, k4, k5, _⟩ := hold h8 h10
    exact hr.inj i j i' j' o2 o3 q k1 k4 k2 k5 h11 (k3 h12) h13 h14
  · exact ⟨by simp only [setL_length]; exact (hr.dom _ _ _ h).1, by rw [h4]; exact (hr.dom _ _ _ h).2⟩
  · refine h5 q fun hne => ?_
    subst hne
    exact hnq id 0 (Nat.min_le_right _ _) hb'

theorem toNat_ofNat {k : Int} (h0 : 0 ≤ k) (h1 : k < 256) : ((UInt8.ofNat k.toNat).toNat : Int) = k := by
  have : (UInt8.ofNat k.toNat).toNat = k.toNat := by
    simp only [UInt8.toNat_ofNat']
    omega
  rw [this]
  omega

theorem byteOk_spec {ρ : Ren} {l : List V} {xs : List Value} (h : byteOk l) (hc : C ρ l xs) : xs = [Value.int .u8 ((byteOf l).toNat : Nat)] := by
  unfold byteOk at h
  split at h
  · rename_i x
    cases hc with
    | one v y vs xs hv h1 t =>
      cases t
      cases hv
      simp only [byteOf, toNat_ofNat h.1 h.2]
  · rename_i x
    cases hc with
    | one v y vs xs hv h1 t =>
      cases t
      cases hv
      simp only [byteOf, toNat_ofNat h.1 h.2]
  · exact h.elim

theorem bytesV_spec {ρ : Ren} : ∀ {vs : List V} {xs : List Value} {bs : List UInt8} {sy : Bool}, Leads (bytesV vs) (bs, sy) → C ρ vs xs → xs = bs.map fun b => Value.int .u8 (b.toNat : Nat)
  | [], xs, bs, sy, h, hc => by
    have h := h.ret_inv
    simp only [Prod.mk.injEq] at h
    obtain ⟨rfl, rfl⟩ := h
    cases hc
    rfl
  | v :: vs, xs, bs, sy, h, hc => by
    unfold bytesV at h
    split at h
    · cases ‹v :: vs = []›
    · rename_i k vs' e
      cases e
      obtain ⟨hk, h⟩ := h.ask_inv
      obtain ⟨⟨bs', sy'⟩, h1, h2⟩ := h.bind_inv
      have h2 := h2.ret_inv
      simp only [Prod.mk.injEq] at h2
      obtain ⟨rfl, rfl⟩ := h2
      cases hc with
      | one v y vs xs hv hh t =>
        cases hv
        rw [bytesV_spec h1 t, List.map_cons, toNat_ofNat hk.1 hk.2]
    · rename_i k vs' e
      cases e
      obtain ⟨hk, h⟩ := h.need_inv
      obtain ⟨⟨bs', sy'⟩, h1, h2⟩ := h.bind_inv
      have h2 := h2.ret_inv
      simp only [Prod.mk.injEq] at h2
      obtain ⟨rfl, rfl⟩ := h2
      cases hc with
      | one v y vs xs hv hh t =>
        cases hv
        rw [bytesV_spec h1 t, List.map_cons, toNat_ofNat hk.1 hk.2]
    · rename_i n s f vs' e
      cases e
      cases hs : Nat.beq s 1 with
      | false => rw [hs] at h; exact h.fail_inv.elim
      | true =>
        rw [hs] at h
        simp only [cond_true] at h
        obtain ⟨hk, h⟩ := h.need_inv
        obtain ⟨⟨bs', sy'⟩, h1, h2⟩ := h.bind_inv
        have h2 := h2.ret_inv
        simp only [Prod.mk.injEq] at h2
        obtain ⟨rfl, rfl⟩ := h2
        cases hc with
        | one v y vs xs hv hh t => cases hv
        | arr n s f g vs xs hh hl t =>
          rw [bytesV_spec h1 t, List.map_append, List.map_map]
          congr 1
          have : ∀ (m : Nat), m ≤ n → (List.range m).flatMap g = (List.range m).map ((fun b => Value.int .u8 (UInt8.toNat b : Nat)) ∘ fun k => byteOf (f k)) := by
            intro m
            induction m with
            | zero => intro _; rfl
            | succ m ih =>
              intro hm
              rw [List.range_succ, List.flatMap_append, List.map_append, ih (by omega)]
              congr 1
              simp only [List.flatMap_cons, List.flatMap_nil, List.append_nil, List.map_cons, List.map_nil, Function.comp]
              exact byteOk_spec (hk m (by omega)) (hh m (by omega))
          exact this n (Nat.le_refl _)
    · exact h.fail_inv.elim

theorem freeze_other {w : World} {b n q : Nat} (h : q ≠ b) : (w.freeze ⟨b, 0, none⟩ n).heap[q]? = w.heap[q]? := by
  unfold World.freeze
  split
  · rfl
  · simp only [Array.getElem?_modify]
    rw [if_neg (by omega)]

theorem memOp2_spec {P : Program} {E : Env} (hesc : ∀ g, E.esc g = true → ∀ x w, (callFunc g #[x]).run P w = .ok (.value x) w) {ρ : Ren} {m m' : Mem} {w : World} {tm : List V} {a : Act} {o : Oper} {t : T (V × Mem)} {v : V} (hr : Rel ρ m w) (htr : TR ρ tm a.tmps)
    (h : memOp2 P E m tm o.op = some t) (hl : Leads t (v, m')) : ∃ w' x, (execOp a.eval o).run P w = .ok (.value x) w' ∧ R ρ v x ∧ Tr ρ m w ρ m' w' := by
  have obj : ∀ {id : Nat} {e : TypeId} {sp : Bool} {vs : List V} {b : Nat}, objL m.objs id = some (.cells true e sp vs) → ρ id 0 = some b → ∃ xs tl, C ρ vs xs ∧ w.heap[b]? = some (.cells (xs ++ tl).toArray e (0, 0)) ∧ (sp = false → tl = []) ∧ ((xs ++ tl).length, 0) = ρ.k id := by
    intro id e sp vs b ho hb
    obtain ⟨b', xs, tl, e', fz, hb', hc, hh, htl, hwr⟩ := (ORel.wr_inv (hr.objs _ _ ho)).resolve_left (fun q => by rw [q.1] at hb; cases hb)
    obtain ⟨rfl, rfl, hkk⟩ := hwr rfl
    rw [hb'] at hb
    cases hb
    exact ⟨xs, tl, hc, hh, htl, hkk⟩
  unfold memOp2 at h
  split at h
  · rename_i s d x ho
    have hx := ev_spec htr x
    generalize hX : a.eval x = X at hx
    split at h
    · rename_i p hp
      simp only [Option.some.injEq] at h; subst h
      rw [hp] at hx
      cases hx with
      | ptr p b hb =>
        split at hl
        · rename_i t e sp vs hs hd hobj
          split at hl
          · rename_i i hi
            cases hq : (!(Nat.beq i.size 0) && (Nat.blt p.o (wds vs) && (Nat.beq p.j 0 && Nat.beq p.s 0))) with
            | false => rw [hq] at hl; exact hl.fail_inv.elim
            | true =>
              rw [hq] at hl
              simp only [Bool.and_eq_true, Bool.not_eq_true'] at hq
              obtain ⟨q1, q2, q3, q4⟩ := hq
              have q3 := beq_eq q3
              have q4 := beq_eq q4
              have q2 : p.o < wds vs := ble_le q2
              have hl := hl.ret_inv
              simp only [Prod.mk.injEq] at hl
              obtain ⟨rfl, rfl⟩ := hl
              have hb2 := hb
              rw [q3] at hb2
              obtain ⟨xs, tl, hc, hh, _, hk2⟩ := obj hobj hb2
              have hoff : (ρ.k p.id).2 + (p.o + p.i * p.s) = p.o + p.i * p.s := by rw [← hk2]; exact Nat.zero_add _
              refine ⟨w, _, ?_, .ptr p b hb, .refl hr⟩
              simp only [execOp, ho, hX, hoff]
              refine value_run (Lib.run_to_unsafe w ⟨b, p.o + p.i * p.s, none⟩ hs hd hi (fun q => by rw [q] at q1; cases q1) (e := e) (cells := (xs ++ tl).length) ?_ ?_)
              · simp [World.shape?, hh]
              · rw [q4, List.length_append, hc.len]; simp only; omega
          · exact hl.fail_inv.elim
        · rename_i u e vs hs hd hobj
          cases hq : ((P.info? u).isSome && (liesAt P P.depth e (wds vs / P.cellsOf e) p.o u 1 && (Nat.beq p.j 0 && Nat.beq p.s 0))) with
          | false => rw [hq] at hl; exact hl.fail_inv.elim
          | true =>
            rw [hq] at hl
            simp only [Bool.and_eq_true] at hq
            obtain ⟨q1, q2, q3, q4⟩ := hq
            have q3 := beq_eq q3
            have q4 := beq_eq q4
            obtain ⟨i, hi⟩ := Option.isSome_iff_exists.1 q1
            have hl := hl.ret_inv
            simp only [Prod.mk.injEq] at hl
            obtain ⟨rfl, rfl⟩ := hl
            have hb2 := hb
            rw [q3] at hb2
            obtain ⟨xs, tl, hc, hh, htl, hk2⟩ := obj hobj hb2
            have := htl rfl
            subst this
            have hoff : (ρ.k p.id).2 + (p.o + p.i * p.s) = p.o + p.i * p.s := by rw [← hk2]; exact Nat.zero_add _
            refine ⟨w, _, ?_, .ptr p b hb, .refl hr⟩
            simp only [execOp, ho, hX, hoff]
            refine value_run (Lib.run_from_unsafe w ⟨b, p.o + p.i * p.s, none⟩ hs hd hi (e := e) (cells := wds vs) ?_ ?_)
            · simp [World.shape?, hh, hc.len]
            · rw [q4, Nat.mul_zero, Nat.add_zero]; exact q2
        · exact hl.fail_inv.elim
    · cases h
  · rename_i f x ty ho
    have hf := ev_spec htr f
    generalize hF : a.eval f = F at hf
    split at h
    · rename_i g hg
      obtain ⟨hb, h⟩ := bif_some h
      subst h
      have hl := hl.ret_inv
      simp only [Prod.mk.injEq] at hl
      obtain ⟨rfl, rfl⟩ := hl
      rw [hg] at hf
      cases hf with
      | func fn fi ca fi' ca' h1 h2 =>
        cases h1; cases h2
        refine ⟨w, _, ?_, ev_spec htr x, .refl hr⟩
        simp only [execOp, ho, resolve, hF, Deferred.ofValue, Sem.run_bind, Sem.run_pure, Result.andThen_ok, invoke]
        have := hesc g hb (a.eval x) w
        simpa using this
    · cases h
  · rename_i x ty ho
    simp only [Option.some.injEq] at h; subst h
    have hx := ev_spec htr x
    generalize hX : a.eval x = X at hx
    split at hl
    · rename_i p n c sy hp
      obtain ⟨hn, hl⟩ := hl.ask_inv
      have hl := hl.ret_inv
      simp only [Prod.mk.injEq] at hl
      obtain ⟨rfl, rfl⟩ := hl
      rw [hp] at hx
      cases hx with
      | slice p n c' c sy b hb hc he =>
        refine ⟨w, _, ?_, .ptr p b hb, .refl hr⟩
        simp only [execOp, ho, resolve, Sem.run_bind, Sem.run_pure, Result.andThen_ok, invoke, builtin]
        simp only [List.map_toArray, List.map_cons, List.map_nil, hX]
        rw [Lib.run_unsafeSliceData_row _ _ _ _ _ _ (by omega)]
        rfl
      | empty p x c sy hx he => omega
    · exact hl.fail_inv.elim
  · rename_i p l pt it ho
    simp only [Option.some.injEq] at h; subst h
    have hp := ev_spec htr p
    have hn := ev_spec htr l
    generalize hX : a.eval p = X at hp
    split at hl
    · rename_i q k n sy e' h1 h2 h3
      rw [h1] at hp
      cases hp with
      | ptr q b hb =>
        split at hl
        · rename_i e sp vs hobj
          cases hq : (Nat.beq e e' && (Nat.beq (P.cellsOf e) 1 && (Nat.beq q.o 0 && (Nat.beq q.j 0 && Nat.beq q.s 0)))) with
          | false => rw [hq] at hl; exact hl.fail_inv.elim
          | true =>
            rw [hq] at hl
            simp only [cond_true] at hl
            simp only [Bool.and_eq_true] at hq
            obtain ⟨q1, q2, q3, q4, q5⟩ := hq
            have q1 : e = e' := beq_eq q1
            have q2 := beq_eq q2
            have q3 := beq_eq q3
            have q4 := beq_eq q4
            have q5 := beq_eq q5
            subst q1
            obtain ⟨⟨bs, sb⟩, h4, h5⟩ := hl.bind_inv
            obtain ⟨⟨rfl, rfl, h7, h8⟩, h6⟩ := h5.ask_inv
            have h7 : (0 : Int) < (bs.length : Nat) := h7
            have h8 : ((bs.length : Nat) : Int) ≤ 9223372036854775807 := h8
            have h6 := h6.ret_inv
            simp only [Prod.mk.injEq] at h6
            obtain ⟨rfl, rfl⟩ := h6
            rw [q4] at hb
            obtain ⟨xs, tl, hc, hh, htl, hkk⟩ := obj hobj hb
            have hxs := bytesV_spec h4 hc
            have hlen : xs.length = bs.length := by rw [hxs, List.length_map]
            have hrun := Lib.run_unsafeString_row (P := P) w pt it o.type e h3 q2 b (xs ++ tl).length (by simp [World.shape?, hh]) bs (fun q => by rw [q, List.length_nil] at h7; omega) (by rw [List.length_append]; omega) (by omega) (fun j x hj => by
              have := cell_in (w := w) (b := b) (ys := []) (ms := xs) (zs := tl) (o := 0) (by simpa using hh) rfl j (.int .u8 (x.toNat : Nat)) (by rw [hxs, List.getElem?_map, hj]; rfl)
              exact this)
            refine ⟨_, _, ?_, .str _ _, turn_tr (xs := xs) (tl := tl) (fz := (0, bs.length)) (e2 := e) (w' := w.freeze ⟨b, 0, none⟩ bs.length) hr hobj hb ?_ ?_ ?_ ?_ (fun _ h => freeze_other h) ?_ hc htl (fun h => by cases h)⟩
            · simp only [execOp, ho, resolve, Sem.run_bind, Sem.run_pure, Result.andThen_ok, invoke, builtin]
              simp only [List.map_toArray, List.map_cons, List.map_nil, hX, isInt_spec h2 hn, q3, q5, Nat.mul_zero, Nat.add_zero]
              rw [show (ρ.k q.id).2 = 0 by rw [← hkk]]
              rw [hrun]
              rfl
            all_goals unfold World.freeze; rw [if_neg (by omega)]
            · simp
            · simp [Array.getElem?_modify, hh]
        · exact hl.fail_inv.elim
    · exact hl.fail_inv.elim
  · cases h

end Go.X
