/- Memory of the evaluator and the machine's memory. -/
import Derived.Test.YtomeoihdhkmamaaDoorZxC
import Derived.Laws.CopyRow
set_option linter.unusedVariables false
set_option linter.unusedSimpArgs false
namespace Go.X
open Go.RowKit (Below)

def O.has : O → Nat → Prop
  | .cells .., j => j = 0
  | .fam _ n _, j => j < n
  | .dead, _ => False

def O.wr : O → Prop
  | .cells wr .. => wr = true
  | .fam .. => True
  | .dead => False

def ORel (ρ : Ren) (w : World) (id : Nat) : O → Prop
  | .cells wr e sp vs => (ρ id 0 = none ∧ C ρ vs []) ∨ ∃ b pre xs tl e' fz, ρ id 0 = some b ∧ pre.length = (ρ.k id).2 ∧ C ρ vs xs ∧ w.heap[b]? = some (.cells (pre ++ (xs ++ tl)).toArray e' fz) ∧ (sp = false → tl = []) ∧ (wr = true → e' = e ∧ fz = (0, 0) ∧ ((xs ++ tl).length, 0) = ρ.k id)
  | .fam e n f => ∀ k, k < n → ∃ b xs, ρ id k = some b ∧ (ρ.k id).2 = 0 ∧ C ρ (f k) xs ∧ w.heap[b]? = some (.cells xs.toArray e (0, 0))
  | .dead => True

structure Rel (ρ : Ren) (m : Mem) (w : World) : Prop where
  objs : ∀ id o, objL m.objs id = some o → ORel ρ w id o
  inj : ∀ id j id' j' o o' b, objL m.objs id = some o → objL m.objs id' = some o' → o.has j → o'.has j' → (id ≠ id' ∨ j ≠ j') → o.wr → ρ id j = some b → ρ id' j' = some b → False
  dom : ∀ id j b, ρ id j = some b → id < m.objs.length ∧ b < w.heap.size

structure Keeps (L : Nat) (ρ : Ren) (w w' : World) : Prop where
  os : w'.os = w.os
  tape : w'.tape = w.tape
  output : w'.output = w.output
  size : w.heap.size ≤ w'.heap.size
  block : ∀ b, b < w.heap.size → (∀ id j, L ≤ id → ρ id j ≠ some b) → w'.heap[b]? = w.heap[b]?

/-- A later one. -/
def Sub (ρ ρ' : Ren) : Prop := ∀ id j b, ρ id j = some b → ρ' id j = some b ∧ ρ'.k id = ρ.k id

theorem Sub.refl (ρ : Ren) : Sub ρ ρ := fun _ _ _ h => ⟨h, rfl⟩
theorem Sub.trans {ρ ρ' ρ'' : Ren} (h : Sub ρ ρ') (h' : Sub ρ' ρ'') : Sub ρ ρ'' := fun id j b e => by
  obtain ⟨h1, h2⟩ := h id j b e
  obtain ⟨h3, h4⟩ := h' id j b h1
  exact ⟨h3, h4.trans h2⟩

structure Ext (L N : Nat) (ρ : Ren) (w : World) (ρ' : Ren) : Prop where
  sub : Sub ρ ρ'
  new : ∀ id j b, ρ' id j = some b → ρ id j = some b ∨ (N ≤ id ∧ (w.heap.size ≤ b ∨ ∃ id' j', L ≤ id' ∧ ρ id' j' = some b))

theorem Ext.refl (L N : Nat) (ρ : Ren) (w : World) : Ext L N ρ w ρ := ⟨Sub.refl ρ, fun _ _ _ h => .inl h⟩

theorem Ext.mono {L L' N N' : Nat} {ρ ρ' : Ren} {w : World} (h : Ext L N ρ w ρ') (hL : L' ≤ L) (hN : N' ≤ N) : Ext L' N' ρ w ρ' :=
  ⟨h.sub, fun i j b e => (h.new i j b e).imp (fun x => x) fun ⟨h1, h2⟩ => ⟨Nat.le_trans hN h1, h2.imp (fun x => x) fun ⟨i, k, h3, h4⟩ => ⟨i, k, Nat.le_trans hL h3, h4⟩⟩⟩

theorem Ext.trans {L N N' : Nat} {ρ ρ' ρ'' : Ren} {w w' : World} (h : Ext L N ρ w ρ') (h' : Ext L N' ρ' w' ρ'') (hs : w.heap.size ≤ w'.heap.size) (hN : N ≤ N') : Ext L N ρ w ρ'' := by
  refine ⟨h.sub.trans h'.sub, fun id j b e => ?_⟩
  rcases h'.new id j b e with e | ⟨h1, h2⟩
  · exact h.new id j b e
  · refine .inr ⟨by omega, ?_⟩
    rcases h2 with h2 | ⟨i, k, h3, h4⟩
    · exact .inl (by omega)
    · rcases h.new i k b h4 with h5 | ⟨_, h6⟩
      · exact .inr ⟨i, k, h3, h5⟩
      · exact h6

theorem Keeps.refl (L : Nat) (ρ : Ren) (w : World) : Keeps L ρ w w := ⟨rfl, rfl, rfl, Nat.le_refl _, fun _ _ _ => rfl⟩
theorem Keeps.mono {L L' : Nat} {ρ : Ren} {w w' : World} (h : Keeps L ρ w w') (hL : L' ≤ L) : Keeps L' ρ w w' :=
  ⟨h.os, h.tape, h.output, h.size, fun b hb hn => h.block b hb fun id j hi => hn id j (Nat.le_trans hL hi)⟩
theorem Keeps.trans {L N : Nat} {ρ ρ' : Ren} {w w' w'' : World} (h : Keeps L ρ w w') (h' : Keeps L ρ' w' w'') (he : Ext L N ρ w ρ') : Keeps L ρ w w'' := by
  refine ⟨h'.os.trans h.os, h'.tape.trans h.tape, h'.output.trans h.output, Nat.le_trans h.size h'.size, fun b hb hn => ?_⟩
  refine (h'.block b (Nat.lt_of_lt_of_le hb h.size) fun id j hi e => ?_).trans (h.block b hb hn)
  rcases he.new id j b e with e | ⟨_, h2 | ⟨i, k, h3, h4⟩⟩
  · exact hn id j hi e
  · omega
  · exact hn i k h3 h4

theorem Keeps.below {L : Nat} {ρ : Ren} {w w' : World} (h : Keeps L ρ w w') (hL : ∀ id j b, ρ id j = some b → id < L) : Below w.heap.size w w' :=
  ⟨h.os, h.tape, h.output, h.size, fun b hb => h.block b hb fun id j hi e => by have := hL id j b e; omega⟩

theorem Keeps.of_below {L : Nat} {ρ : Ren} {w w' : World} (h : Below w.heap.size w w') : Keeps L ρ w w' :=
  ⟨h.os, h.tape, h.output, h.size, fun b hb _ => h.block b hb⟩

theorem CapIs.mono {ρ ρ' : Ren} {id off c' : Nat} {c : Cap} (h : CapIs ρ id off c c') (hk : ρ'.k id = ρ.k id) : CapIs ρ' id off c c' := by
  cases c with
  | known n => exact h
  | rest e => unfold CapIs at *; rw [hk]; exact h

theorem R.ptrAt {ρ : Ren} {a : A} {b o : Nat} (h : ρ a.id a.j = some b) (ho : (ρ.k a.id).2 + (a.o + a.i * a.s) = o) : R ρ (.ptr a) (.pointer (some ⟨b, o, none⟩)) := by
  subst ho; exact .ptr a b h
theorem R.sptrAt {ρ : Ren} {c : Bool} {a : A} {b o : Nat} (h : c = false → ρ a.id a.j = some b ∧ (ρ.k a.id).2 + (a.o + a.i * a.s) = o) : R ρ (.sptr c a) (.pointer (if c then none else some ⟨b, o, none⟩)) := by
  cases c with
  | true => exact R.sptr true a 0 (fun q => by cases q)
  | false =>
    obtain ⟨h1, rfl⟩ := h rfl
    exact R.sptr false a b (fun _ => h1)
theorem R.sliceAt {ρ : Ren} {a : A} {n c' : Nat} {c : Cap} {sy : Bool} {b o : Nat} (h : ρ a.id a.j = some b) (hc : n ≤ c') (he : CapIs ρ a.id (a.o + a.i * a.s) c c') (ho : (ρ.k a.id).2 + (a.o + a.i * a.s) = o) :
    R ρ (.slice a n c sy) (.slice (some ⟨b, o, none⟩) n c') := by
  subst ho; exact .slice a n c' c sy b h hc he

mutual
theorem R.mono {ρ ρ' : Ren} (hs : Sub ρ ρ') : ∀ {v : V} {x : Value}, R ρ v x → R ρ' v x
  | _, _, .unk x => .unk x
  | _, _, .bool b => .bool b
  | _, _, .sbool b => .sbool b
  | _, _, .int k n => .int k n
  | _, _, .sint k n => .sint k n
  | _, _, .str s sy => .str s sy
  | _, _, .ptr a b h => .ptrAt (hs _ _ _ h).1 (by rw [(hs _ _ _ h).2])
  | _, _, .nil => .nil
  | _, _, .sptr c a b h => .sptrAt (fun hc => ⟨(hs _ _ _ (h hc)).1, by rw [(hs _ _ _ (h hc)).2]⟩)
  | _, _, .slice a n c' c sy b h hc he => .sliceAt (hs _ _ _ h).1 hc (he.mono (hs _ _ _ h).2) (by rw [(hs _ _ _ h).2])
  | _, _, .empty a x c sy hx he => .empty a x c sy hx he
  | _, _, .nilSlice => .nilSlice
  | _, _, .map r b h => .map r b (hs _ _ _ h).1
  | _, _, .nilMap => .nilMap
  | _, _, .func fn f c f' c' h1 h2 => .func fn f c f' c' (RL.mono hs h1) (RL.mono hs h2)
  | _, _, .nilFunc => .nilFunc
  | _, _, .iface t v x h => .iface t v x (R.mono hs h)
  | _, _, .nilIface => .nilIface
  | _, _, .agg cs xs h => .agg cs xs (C.mono hs h)
  | _, _, .tuple vs xs h => .tuple vs xs (RL.mono hs h)
  | _, _, .held x => .held x
theorem RL.mono {ρ ρ' : Ren} (hs : Sub ρ ρ') : ∀ {vs : List V} {xs : List Value}, RL ρ vs xs → RL ρ' vs xs
  | _, _, .nil => .nil
  | _, _, .cons v x vs xs h t => .cons v x vs xs (R.mono hs h) (RL.mono hs t)
theorem C.mono {ρ ρ' : Ren} (hs : Sub ρ ρ') : ∀ {vs : List V} {xs : List Value}, C ρ vs xs → C ρ' vs xs
  | _, _, .nil => .nil
  | _, _, .one v x vs xs h h1 t => .one v x vs xs (R.mono hs h) h1 (C.mono hs t)
  | _, _, .unks n us vs xs hn h1 t => .unks n us vs xs hn h1 (C.mono hs t)
  | _, _, .arr n s f g vs xs h hl t => .arr n s f g vs xs (fun k hk => C.mono hs (h k hk)) hl (C.mono hs t)
end

theorem cell_in {w : World} {b o : Nat} {ys ms zs : List Value} {e : TypeId} {fz : Nat × Nat} (h : w.heap[b]? = some (.cells (ys ++ (ms ++ zs)).toArray e fz)) (ho : ys.length = o) :
    ∀ j v, ms[j]? = some v → w.cell? ((⟨b, o, none⟩ : Addr).add j) = some v := by
  intro j v hj
  have hadd : (⟨b, o, none⟩ : Addr).add j = ⟨b, o + j, none⟩ := by unfold Addr.add; split <;> simp_all
  rw [hadd]
  have hlt := (List.getElem?_eq_some_iff.1 hj).1
  simp only [World.cell?, h, Option.isSome_none, Bool.false_eq_true, if_false]
  rw [List.getElem?_toArray, List.getElem?_append_right (by omega), List.getElem?_append_left (by omega), ← hj]
  congr 1
  omega

theorem run_isAgg {P : Program} {t : TypeId} {b : Bool} (h : isAggT P t = some b) (w : World) : (isAgg t).run P w = .ok b w := by
  unfold isAggT at h
  unfold isAgg
  split at h
  · rename_i fs hu
    simp only [Option.some.injEq] at h; subst h
    simp [run_underlying hu w, Result.andThen]
  · rename_i n e hu
    simp only [Option.some.injEq] at h; subst h
    simp [run_underlying hu w, Result.andThen]
  · rename_i d hs ha hu
    simp only [Option.some.injEq] at h; subst h
    simp only [Sem.run_bind, run_underlying hu w, Result.andThen]
    cases d <;> first | rfl | exact (hs _ hu).elim | exact (ha _ _ hu).elim
  · cases h

theorem run_sizeOf {P : Program} {t : TypeId} {sz : Nat} (h : sizeT P t = some sz) (w : World) : (sizeOf t).run P w = .ok sz w := by
  unfold sizeT at h
  obtain ⟨i, hi, rfl⟩ := Option.map_eq_some_iff.1 h
  simp [sizeOf, typeInfo, program, hi, Sem.run, Result.andThen]

theorem asV_true {ρ : Ren} {cs : List V} {v : V} {ms : List Value} (h : Leads (asV true cs) v) (hc : C ρ cs ms) : R ρ v (.agg ms.toArray) := by
  have := h.ret_inv
  subst this
  exact .agg _ _ hc

theorem asV_false {ρ : Ren} {cs : List V} {v : V} {ms : List Value} (h : Leads (asV false cs) v) (hc : C ρ cs ms) (hl : ms.length = 1) : ∃ x, ms = [x] ∧ R ρ v x := by
  unfold asV at h
  simp only [cond_false] at h
  obtain ⟨x, rfl⟩ := List.length_eq_one_iff.1 hl
  split at h
  · exact h.fail_inv.elim
  · have := h.ret_inv
    subst this
    exact ⟨x, rfl, .unk x⟩
  · rename_i v' h1 h2
    have := h.ret_inv
    subst this
    refine ⟨x, rfl, ?_⟩
    generalize hx : [x] = xs at hc
    cases hc with
    | one v y vs xs hv h1 t => cases t; simp only [List.cons.injEq, and_true] at hx; subst hx; exact hv
    | unks n us vs xs hn h1 t => exact (h2 _ rfl).elim
    | arr n s f g vs xs hh hl t => exact (h1 _ _ _ rfl).elim
  · exact h.fail_inv.elim

/-- The cells of a place, in every world that keeps what is there. -/
theorem load_cells {P : Program} {w : World} {b o : Nat} {ys ms zs : List Value} {e : TypeId} {fz : Nat × Nat} (h : w.heap[b]? = some (.cells (ys ++ (ms ++ zs)).toArray e fz)) (ho : ys.length = o)
    {w' : World} (hw : Below w.heap.size w w') : (loadCells ⟨b, o, none⟩ ms.length).run P w' = .ok ms.toArray w' := by
  have hb : b < w.heap.size := by
    rcases Nat.lt_or_ge b w.heap.size with h' | h'
    · exact h'
    · rw [Array.getElem?_eq_none h'] at h; cases h
  exact run_loadCells_list w' _ ms (cell_in ((hw.block b hb).trans h) ho)

theorem run_loadVar {P : Program} {t : TypeId} {b o sz : Nat} {bb : Bool} {ys ms zs : List Value} {e : TypeId} {fz : Nat × Nat} {w w' : World} (ha : isAggT P t = some bb) (hs : sizeT P t = some sz)
    (h : w.heap[b]? = some (.cells (ys ++ (ms ++ zs)).toArray e fz)) (ho : ys.length = o) (hl : ms.length = bif bb then sz else 1) (hw : Below w.heap.size w w') :
    (bb = true → (loadVar t ⟨b, o, none⟩).run P w' = .ok (.agg ms.toArray) w') ∧ (bb = false → ∀ x, ms = [x] → (loadVar t ⟨b, o, none⟩).run P w' = .ok x w') := by
  have hc := load_cells (P := P) h ho hw
  constructor
  · intro hb
    subst hb
    simp only [cond_true] at hl
    rw [hl] at hc
    unfold loadVar
    simp only [Sem.run_bind, run_isAgg ha, Result.andThen, if_true, run_sizeOf hs, hc]
    rfl
  · intro hb x hx
    subst hb
    subst hx
    unfold loadVar
    simp only [Sem.run_bind, run_isAgg ha, Result.andThen, Bool.false_eq_true, if_false]
    have hb : b < w.heap.size := by
      rcases Nat.lt_or_ge b w.heap.size with h' | h'
      · exact h'
      · rw [Array.getElem?_eq_none h'] at h; cases h
    have := cell_in ((hw.block b hb).trans h) ho 0 x rfl
    simp only [Addr.add, if_true] at this
    simp [load, Sem.run, this]

theorem Rel.block_lt {ρ : Ren} {m : Mem} {w : World} (h : Rel ρ m w) {id j b : Nat} (hb : ρ id j = some b) : b < w.heap.size := (h.dom id j b hb).2

theorem ldV_spec {P : Program} {ρ : Ren} {m : Mem} {w : World} {t : TypeId} {a : A} {v : V} {b : Nat} (hr : Rel ρ m w) (h : Leads (ldV P m t a) v) (hb : ρ a.id a.j = some b) :
    ∃ x, R ρ v x ∧ ∀ w', Below w.heap.size w w' → (loadVar t ⟨b, (ρ.k a.id).2 + (a.o + a.i * a.s), none⟩).run P w' = .ok x w' := by
  unfold ldV at h
  split at h
  · rename_i bb sz ha hs
    simp only at h
    have fin : ∀ {vs cs : List V} {pre xs tl : List Value} {e : TypeId} {fz : Nat × Nat}, pre.length = (ρ.k a.id).2 → Leads (ldA vs a (bif bb then sz else 1)) cs → Leads (asV bb cs) v → C ρ vs xs → w.heap[b]? = some (.cells (pre ++ (xs ++ tl)).toArray e fz) →
        ∃ x, R ρ v x ∧ ∀ w', Below w.heap.size w w' → (loadVar t ⟨b, (ρ.k a.id).2 + (a.o + a.i * a.s), none⟩).run P w' = .ok x w' := by
      intro vs cs pre xs tl e fz hpre h1 h2 hc hh
      obtain ⟨ys, ms, zs, rfl, e1, e2, e3⟩ := ldA_spec h1 hc
      rw [List.append_assoc, List.append_assoc, ← List.append_assoc] at hh
      have e1 : (pre ++ ys).length = (ρ.k a.id).2 + (a.o + a.i * a.s) := by rw [List.length_append, hpre, e1]
      cases bb with
      | true => exact ⟨_, asV_true h2 e3, fun w' hw => (run_loadVar ha hs hh e1 e2 hw).1 rfl⟩
      | false =>
        obtain ⟨x, rfl, hx⟩ := asV_false h2 e3 (by simpa using e2)
        exact ⟨x, hx, fun w' hw => (run_loadVar ha hs hh e1 e2 hw).2 rfl x rfl⟩
    split at h
    · rename_i wr e sp vs ho
      cases hj : Nat.beq a.j 0 with
      | false => rw [hj] at h; exact h.fail_inv.elim
      | true =>
        rw [hj] at h
        simp only [cond_true] at h
        obtain ⟨cs, h1, h2⟩ := h.bind_inv
        obtain ⟨b', pre, xs, tl, e', fz, hb', hpre, hc, hh, _, _⟩ := (hr.objs _ _ ho).resolve_left (fun q => by rw [beq_eq hj, q.1] at hb; cases hb)
        rw [beq_eq hj, hb'] at hb
        cases hb
        exact fin (by rw [hpre]) h1 h2 hc hh
    · rename_i e n f ho
      obtain ⟨hj, h⟩ := h.need_inv
      obtain ⟨cs, h1, h2⟩ := h.bind_inv
      obtain ⟨b', xs, hb', hk0, hc, hh⟩ := hr.objs _ _ ho a.j hj
      rw [hb'] at hb
      cases hb
      exact fin (pre := []) (tl := []) hk0.symm h1 h2 hc (by simpa using hh)
    · exact h.fail_inv.elim
  · exact h.fail_inv.elim

end Go.X
