/- Operations that write memory, and what a step leaves. -/
import Derived.Laws.MakeOwn
import Derived.Test.YtomeoihdhkmamaaDoorZxG
import Derived.Test.YtomeoihdhkmamaaDoorZxH
set_option linter.unusedVariables false
set_option linter.unusedSimpArgs false
namespace Go.X
open Go.RowKit (Below)

/-- From one memory to a later one. -/
structure Tr (ρ : Ren) (m : Mem) (w : World) (ρ' : Ren) (m' : Mem) (w' : World) : Prop where
  rel : Rel ρ' m' w'
  ext : Ext m'.low m.objs.length ρ w ρ'
  keeps : Keeps m'.low ρ w w'
  low : m'.low ≤ m.low
  len : m.objs.length ≤ m'.objs.length

theorem Tr.trans {ρ ρ1 ρ2 : Ren} {m m1 m2 : Mem} {w w1 w2 : World} (h : Tr ρ m w ρ1 m1 w1) (h' : Tr ρ1 m1 w1 ρ2 m2 w2) : Tr ρ m w ρ2 m2 w2 :=
  ⟨h'.rel, (h.ext.mono h'.low (Nat.le_refl _)).trans h'.ext h.keeps.size h.len, (h.keeps.mono h'.low).trans h'.keeps (h.ext.mono h'.low (Nat.le_refl _)), Nat.le_trans h'.low h.low, Nat.le_trans h.len h'.len⟩

theorem ORel.keep {ρ ρ' : Ren} {w w' : World} {id : Nat} {o : O} (h : ORel ρ w id o) (hs : Sub ρ ρ') (hn : ∀ j b, ρ' id j = some b → ρ id j = some b)
    (hw : ∀ j b, o.has j → ρ id j = some b → w'.heap[b]? = w.heap[b]?) : ORel ρ' w' id o := by
  cases o with
  | cells wr e sp vs =>
    rcases h with ⟨h1, h2⟩ | ⟨b, pre, xs, tl, e', fz, h1, hpre, h2, h3, h4, h5⟩
    · refine .inl ⟨?_, h2.mono hs⟩
      cases hq : ρ' id 0 with
      | none => rfl
      | some b => have := hn 0 b hq; rw [h1] at this; cases this
    exact .inr ⟨b, pre, xs, tl, e', fz, (hs _ _ _ h1).1, by rw [(hs _ _ _ h1).2]; exact hpre, h2.mono hs, (hw 0 b rfl h1).trans h3, h4, fun q => ⟨(h5 q).1, (h5 q).2.1, (h5 q).2.2.trans (hs _ _ _ h1).2.symm⟩⟩
  | fam e n f =>
    intro k hk
    obtain ⟨b, xs, h1, hk0, h2, h3⟩ := h k hk
    exact ⟨b, xs, (hs _ _ _ h1).1, by rw [(hs _ _ _ h1).2]; exact hk0, h2.mono hs, (hw k b hk h1).trans h3⟩
  | dead => trivial

/-- A block that may be written begins at its beginning. -/
theorem ORel.wr_inv {ρ : Ren} {w : World} {id : Nat} {e : TypeId} {sp : Bool} {vs : List V} (h : ORel ρ w id (.cells true e sp vs)) :
    (ρ id 0 = none ∧ C ρ vs []) ∨ ∃ b xs tl e' fz, ρ id 0 = some b ∧ C ρ vs xs ∧ w.heap[b]? = some (.cells (xs ++ tl).toArray e' fz) ∧ (sp = false → tl = []) ∧ (true = true → e' = e ∧ fz = (0, 0) ∧ ((xs ++ tl).length, 0) = ρ.k id) := by
  rcases h with h | ⟨b, pre, xs, tl, e', fz, h1, hpre, h2, h3, h4, h5⟩
  · exact .inl h
  · have hk := (h5 rfl).2.2
    rw [← hk] at hpre
    have : pre = [] := List.length_eq_zero_iff.1 hpre
    subst this
    exact .inr ⟨b, xs, tl, e', fz, h1, h2, h3, h4, h5⟩

theorem Rel.below {ρ : Ren} {m : Mem} {w w' : World} (h : Rel ρ m w) (hb : Below w.heap.size w w') : Rel ρ m w' :=
  ⟨fun id o ho => (h.objs id o ho).keep (.refl ρ) (fun _ _ q => q) (fun j b _ hj => hb.block b (h.dom _ _ _ hj).2), h.inj, fun id j b hj => ⟨(h.dom _ _ _ hj).1, Nat.lt_of_lt_of_le (h.dom _ _ _ hj).2 hb.size⟩⟩

theorem Tr.below {ρ : Ren} {m : Mem} {w w' : World} (h : Rel ρ m w) (hb : Below w.heap.size w w') : Tr ρ m w ρ m w' :=
  ⟨h.below hb, .refl _ _ _ _, .of_below hb, Nat.le_refl _, Nat.le_refl _⟩

theorem Tr.refl {ρ : Ren} {m : Mem} {w : World} (h : Rel ρ m w) : Tr ρ m w ρ m w := .below h (.refl _ _)

theorem objL_append {α : Type} : ∀ (l : List α) (o : α) (id : Nat) (x : α), objL (l ++ [o]) id = some x → (id < l.length ∧ objL l id = some x) ∨ (id = l.length ∧ x = o)
  | [], o, 0, x, h => by simp only [List.nil_append, objL_nil, objL_zero, objL_succ, Option.some.injEq] at h; exact .inr ⟨rfl, h.symm⟩
  | [], o, id + 1, x, h => by simp [objL_nil, objL_zero, objL_succ] at h
  | a :: l, o, 0, x, h => by simp only [List.cons_append, objL_nil, objL_zero, objL_succ] at h; exact .inl ⟨by simp, h⟩
  | a :: l, o, id + 1, x, h => by
    simp only [List.cons_append, objL_nil, objL_zero, objL_succ] at h
    rcases objL_append l o id x h with ⟨h1, h2⟩ | ⟨h1, h2⟩
    · exact .inl ⟨by simp; omega, h2⟩
    · exact .inr ⟨by simp [h1], h2⟩

theorem objL_lt {α : Type} {l : List α} {id : Nat} {x : α} (h : objL l id = some x) : id < l.length := by
  rw [objL_toList] at h
  exact (List.getElem?_eq_some_iff.1 h).1

/-- A new object. -/
theorem Tr.pushS {ρ : Ren} {m : Mem} {w : World} (hr : Rel ρ m w) {cs : List V} {xs : List Value} (hc : C ρ cs xs) (e : TypeId) (sp : Bool) (tl : List Value) (htl : sp = false → tl = []) :
    ∃ ρ' : Ren, ρ' m.objs.length 0 = some w.heap.size ∧ Tr ρ m w ρ' (m.push (.cells true e sp cs)) (w.alloc (.cells (xs ++ tl).toArray e)) ∧ ρ'.k m.objs.length = ((xs ++ tl).length, 0) := by
  obtain ⟨ρ', h00, hsub, hk, hnew⟩ : ∃ ρ' : Ren, ρ' m.objs.length 0 = some w.heap.size ∧ Sub ρ ρ' ∧ ρ'.k m.objs.length = ((xs ++ tl).length, 0) ∧
      (∀ id j b, ρ' id j = some b → (ρ id j = some b ∧ id < m.objs.length) ∨ (id = m.objs.length ∧ j = 0 ∧ b = w.heap.size)) := by
    refine ⟨⟨fun id j => if id = m.objs.length then (if j = 0 then some w.heap.size else none) else ρ id j, fun id => if id = m.objs.length then ((xs ++ tl).length, 0) else ρ.k id⟩, by simp, fun id j b h => ?_, by simp, fun id j b h => ?_⟩
    · have := (hr.dom id j b h).1
      simp only
      rw [if_neg (by omega), if_neg (by omega)]
      exact ⟨h, rfl⟩
    · simp only at h
      split at h
      · split at h
        · simp only [Option.some.injEq] at h; exact .inr ⟨by assumption, by assumption, h.symm⟩
        · cases h
      · exact .inl ⟨h, (hr.dom id j b h).1⟩
  refine ⟨ρ', h00, ⟨⟨fun id o ho => ?_, fun id j id' j' o o' b ho ho' hj hj' hne hwr h1 h2 => ?_, fun id j b h => ?_⟩, ⟨hsub, fun id j b h => ?_⟩, .of_below ((Below.refl _ _).alloc (Nat.le_refl _) _), Nat.le_refl _, by simp [Mem.push]⟩, hk⟩
  · rcases objL_append _ _ _ _ ho with ⟨h1, h2⟩ | ⟨h1, h2⟩
    · exact (hr.objs id o h2).keep hsub (fun j b hj => by rcases hnew _ _ _ hj with h3 | h3; exact h3.1; omega) (fun j b _ hj => Go.RowKit.Below.heap_alloc _ _ _ (hr.dom _ _ _ hj).2)
    · subst h2
      subst h1
      exact .inr ⟨w.heap.size, [], xs, tl, e, (0, 0), h00, by rw [hk]; rfl, hc.mono hsub, by show (w.heap.push _)[w.heap.size]? = _; simp, htl, fun _ => ⟨rfl, rfl, by rw [hk]⟩⟩
  · rcases objL_append _ _ _ _ ho with ⟨q1, q2⟩ | ⟨q1, q2⟩
    · rcases objL_append _ _ _ _ ho' with ⟨q3, q4⟩ | ⟨q3, q4⟩
      · rcases hnew _ _ _ h1 with ⟨h1, _⟩ | ⟨h1, _⟩
        · rcases hnew _ _ _ h2 with ⟨h2, _⟩ | ⟨h2, _⟩
          · exact hr.inj id j id' j' o o' b q2 q4 hj hj' hne hwr h1 h2
          · omega
        · omega
      · rcases hnew _ _ _ h1 with ⟨h1, _⟩ | ⟨h1, _⟩
        · rcases hnew _ _ _ h2 with ⟨_, h2⟩ | ⟨_, _, h2⟩
          · omega
          · have := (hr.dom _ _ _ h1).2
            omega
        · omega
    · rcases objL_append _ _ _ _ ho' with ⟨q3, q4⟩ | ⟨q3, q4⟩
      · rcases hnew _ _ _ h2 with ⟨h2, _⟩ | ⟨h2, _⟩
        · rcases hnew _ _ _ h1 with ⟨_, h1⟩ | ⟨_, _, h1⟩
          · omega
          · have := (hr.dom _ _ _ h2).2
            omega
        · omega
      · rcases hnew _ _ _ h1 with ⟨_, h1⟩ | ⟨_, h3, _⟩
        · omega
        · rcases hnew _ _ _ h2 with ⟨_, h2⟩ | ⟨_, h4, _⟩
          · omega
          · rcases hne with hne | hne <;> omega
  · rcases hnew _ _ _ h with ⟨h1, h2⟩ | ⟨h1, _, h3⟩
    · have := (hr.dom _ _ _ h1).2
      have hz : (w.alloc (.cells (xs ++ tl).toArray e)).heap.size = w.heap.size + 1 := Array.size_push _
      simp only [Mem.push, List.length_append, List.length_cons, List.length_nil]
      omega
    · have hz : (w.alloc (.cells (xs ++ tl).toArray e)).heap.size = w.heap.size + 1 := Array.size_push _
      simp only [Mem.push, List.length_append, List.length_cons, List.length_nil]
      omega
  · rcases hnew _ _ _ h with ⟨h1, h2⟩ | ⟨h1, _, h3⟩
    · exact .inl h1
    · exact .inr ⟨by omega, .inl (by omega)⟩

theorem Tr.push {ρ : Ren} {m : Mem} {w : World} (hr : Rel ρ m w) {cs : List V} {xs : List Value} (hc : C ρ cs xs) (e : TypeId) :
    ∃ ρ' : Ren, ρ' m.objs.length 0 = some w.heap.size ∧ Tr ρ m w ρ' (m.push (.cells true e false cs)) (w.alloc (.cells xs.toArray e)) ∧ ρ'.k m.objs.length = (xs.length, 0) := by
  obtain ⟨ρ', h1, h2, h3⟩ := Tr.pushS hr hc e false [] (fun _ => rfl)
  exact ⟨ρ', h1, by simpa using h2, by simpa using h3⟩

/-- An object without cells, of which no block is wanted. -/
theorem Tr.pushNone {ρ : Ren} {m : Mem} {w : World} (hr : Rel ρ m w) {cs : List V} (hc : C ρ cs []) (e : TypeId) (sp : Bool) : Tr ρ m w ρ (m.push (.cells true e sp cs)) w := by
  refine ⟨⟨fun id o ho => ?_, fun id j id' j' o o' b ho ho' hj hj' hne hwr h1 h2 => ?_, fun id j b h => ?_⟩, .refl _ _ _ _, .refl _ _ _, Nat.le_refl _, by simp [Mem.push]⟩
  · rcases objL_append _ _ _ _ ho with ⟨h1, h2⟩ | ⟨h1, h2⟩
    · exact hr.objs id o h2
    · subst h2
      refine .inl ⟨?_, hc⟩
      cases hq : ρ id 0 with
      | none => rfl
      | some b => have := (hr.dom _ _ _ hq).1; omega
  · rcases objL_append _ _ _ _ ho with ⟨q1, q2⟩ | ⟨q1, q2⟩
    · rcases objL_append _ _ _ _ ho' with ⟨q3, q4⟩ | ⟨q3, q4⟩
      · exact hr.inj id j id' j' o o' b q2 q4 hj hj' hne hwr h1 h2
      · have := (hr.dom _ _ _ h2).1; omega
    · have := (hr.dom _ _ _ h1).1; omega
  · have := hr.dom _ _ _ h
    exact ⟨by simp only [Mem.push, List.length_append]; omega, this.2⟩

theorem run_newRow {P : Program} {w : World} (e : TypeId) (cs : Array Value) : (newRow e cs).run P w = .ok ⟨w.heap.size, 0, none⟩ (w.alloc (.cells cs e)) := rfl

theorem run_newVar {P : Program} {w : World} (e : TypeId) (x : Value) : (newVar e x).run P w = .ok ⟨w.heap.size, 0, none⟩ (w.alloc (.cells x.cells e)) := rfl

theorem objL_setL {α : Type} : ∀ (l : List α) (d : Nat) (v : α) (i : Nat), objL (setL l d v) i = if d = i ∧ d < l.length then some v else objL l i
  | [], d, v, i => by simp [setL_nil, setL_zero, setL_succ]
  | u :: tm, 0, v, 0 => by simp [setL_nil, setL_zero, setL_succ, objL_nil, objL_zero, objL_succ]
  | u :: tm, 0, v, i + 1 => by simp [setL_nil, setL_zero, setL_succ, objL_nil, objL_zero, objL_succ]
  | u :: tm, d + 1, v, 0 => by simp [setL_nil, setL_zero, setL_succ, objL_nil, objL_zero, objL_succ]
  | u :: tm, d + 1, v, i + 1 => by simp [setL_nil, setL_zero, setL_succ, objL_nil, objL_zero, objL_succ, objL_setL tm d v i]

theorem setRow_other {w : World} {g : Nat} {cs : Array Value} {k : Nat} (h : k ≠ g) : (w.setRow g cs).heap[k]? = w.heap[k]? := by
  simp only [World.setRow, Array.getElem?_modify]
  rw [if_neg (by omega)]

theorem setRow_size {w : World} {g : Nat} {cs : Array Value} : (w.setRow g cs).heap.size = w.heap.size := by
  simp [World.setRow]

/-- What a store leaves. -/
theorem store_tr {ρ : Ren} {m : Mem} {w : World} (hr : Rel ρ m w) {id b : Nat} {e' : TypeId} {sp : Bool} {vs vs' : List V} {ys ms zs tl ns : List Value} (ho : objL m.objs id = some (.cells true e' sp vs)) (hb' : ρ id 0 = some b)
    (hh : w.heap[b]? = some (.cells (ys ++ (ms ++ zs) ++ tl).toArray e' (0, 0))) (hkk : ((ys ++ (ms ++ zs) ++ tl).length, 0) = ρ.k id) (htl : sp = false → tl = []) (hl : ns.length = ms.length) (e3 : C ρ vs' (ys ++ (ns ++ zs))) :
    Tr ρ m w ρ { objs := setL m.objs id (.cells true e' sp vs'), low := min m.low id } (w.setRow b ((ys ++ (ns ++ zs)) ++ tl).toArray) := by
  have hother : ∀ {id' j : Nat} {o : O} {q : Nat}, objL m.objs id' = some o → o.has j → (id' ≠ id ∨ j ≠ 0) → ρ id' j = some q → q ≠ b := by
    intro id' j o q h1 h2 h3 h4 h5
    subst h5
    exact hr.inj id 0 id' j _ o q ho h1 rfl h2 (by rcases h3 with h3 | h3; exact .inl (Ne.symm h3); exact .inr (Ne.symm h3)) rfl hb' h4
  have hlt : id < m.objs.length := objL_lt ho
  refine ⟨⟨fun id' o h3 => ?_, fun i j i' j' o o' q h3 h4 h5 h6 h7 h8 h9 h10 => ?_, fun id' j q h3 => ?_⟩, .refl _ _ _ _, ⟨rfl, rfl, rfl, by rw [setRow_size]; exact Nat.le_refl _, fun q hq hnq => ?_⟩, Nat.min_le_left _ _, by simp [setL_length]⟩
  · simp only [objL_setL] at h3
    split at h3
    · rename_i hid
      simp only [Option.some.injEq] at h3
      subst h3
      rw [← hid.1]
      refine .inr ⟨b, [], ys ++ (ns ++ zs), tl, e', (0, 0), hb', by rw [← hkk]; rfl, e3, setRow_heap w b _ _ e' _ hh, htl, fun _ => ⟨rfl, rfl, by
        rw [← hkk]
        simp only [List.length_append, Prod.mk.injEq, and_true]
        omega⟩⟩
    · rename_i hid
      refine (hr.objs id' o h3).keep (.refl ρ) (fun _ _ q => q) (fun j q hj hq => setRow_other (hother h3 hj ?_ hq))
      exact .inl (fun hne => hid ⟨hne.symm, hlt⟩)
  · have hold : ∀ {id' : Nat} {o : O} {j : Nat}, objL (setL m.objs id (O.cells true e' sp vs')) id' = some o → o.has j → ∃ o2, objL m.objs id' = some o2 ∧ o2.has j ∧ (o.wr → o2.wr) := by
      intro id' o j k1 k2
      rw [objL_setL] at k1
      split at k1
      · rename_i hid
        simp only [Option.some.injEq] at k1
        subst k1
        exact ⟨O.cells true e' sp vs, by rw [← hid.1]; exact ho, k2, fun _ => rfl⟩
      · exact ⟨o, k1, k2, fun q => q⟩
    obtain ⟨o2, k1, k2, k3⟩ := hold h3 h5
    obtain ⟨o3, k4, k5, _⟩ := hold h4 h6
    exact hr.inj i j i' j' o2 o3 q k1 k4 k2 k5 h7 (k3 h8) h9 h10
  · exact ⟨by simp only [setL_length]; exact (hr.dom _ _ _ h3).1, by rw [setRow_size]; exact (hr.dom _ _ _ h3).2⟩
  · refine setRow_other fun hne => ?_
    subst hne
    exact hnq id 0 (Nat.min_le_right _ _) hb'

/-- The cells of a row with some of them anew. -/
theorem splice_eq {ys ms zs tl ns : List Value} {o n : Nat} (e1 : ys.length = o) (e2 : ms.length = n) (h : ns.length = n) :
    ((ys ++ (ms ++ zs) ++ tl).take o ++ ns ++ (ys ++ (ms ++ zs) ++ tl).drop (o + n)) = ((ys ++ (ns ++ zs)) ++ tl) := by
  subst e1; subst e2
  simp only [List.append_assoc]
  rw [List.take_append_of_le_length (by omega), List.take_of_length_le (by omega), ← List.length_append, ← List.append_assoc ys ms, List.drop_left]

/-- A store. -/
theorem stV_spec {P : Program} {ρ : Ren} {m m' : Mem} {w : World} {t : TypeId} {a : A} {v : V} {x : Value} {b : Nat} (hr : Rel ρ m w) (h : Leads (stV P m t a v) m') (hb : ρ a.id a.j = some b) (hx : R ρ v x) :
    ∃ w', (storeVar t ⟨b, (ρ.k a.id).2 + (a.o + a.i * a.s), none⟩ x).run P w = .ok () w' ∧ Tr ρ m w ρ m' w' := by
  unfold stV at h
  split at h
  · rename_i sz new hs hl
    have hn := lay_spec hl hx
    cases hz : Nat.beq (wds new) sz with
    | false => rw [hz] at h; exact h.fail_inv.elim
    | true =>
      rw [hz] at h
      simp only [cond_true] at h
      have hlen : x.cells.toList.length = sz := by rw [hn.len]; exact beq_eq hz
      split at h
      · rename_i e sp vs ho
        cases hj : Nat.beq a.j 0 with
        | false => rw [hj] at h; exact h.fail_inv.elim
        | true =>
          rw [hj] at h
          simp only [cond_true] at h
          obtain ⟨vs', h1, h2⟩ := h.bind_inv
          have h2 := h2.ret_inv
          subst h2
          obtain ⟨b', xs, tl, e', fz, hb', hc, hh, htl, hwr⟩ := (ORel.wr_inv (hr.objs _ _ ho)).resolve_left (fun q => by rw [beq_eq hj, q.1] at hb; cases hb)
          obtain ⟨rfl, rfl, hkk⟩ := hwr rfl
          have hj0 := beq_eq hj
          rw [show (ρ.k a.id).2 + (a.o + a.i * a.s) = a.o + a.i * a.s by rw [← hkk]; exact Nat.zero_add _]
          rw [hj0, hb'] at hb
          cases hb
          obtain ⟨ys, ms, zs, rfl, e1, e2, e3⟩ := stA_spec h1 hc hn hlen
          have hbd : a.o + a.i * a.s + 0 + x.cells.toList.length ≤ (ys ++ (ms ++ zs) ++ tl).toArray.size := by
            rw [hlen]
            simp only [List.size_toArray, List.length_append]
            omega
          have hst := run_storeCells_at (P := P) b (a.o + a.i * a.s) e' x.cells.toList 0 _ w hh hbd hn.one_of
          have hcs := splice_eq (zs := zs) (tl := tl) e1 e2 hlen
          rw [← hlen] at hcs
          simp only [Nat.add_zero] at hst
          rw [hcs] at hst
          refine ⟨w.setRow b ((ys ++ (x.cells.toList ++ zs)) ++ tl).toArray, ?_, store_tr hr ho hb' hh hkk htl (by omega) e3⟩
          simp only [storeVar, Sem.run_bind, run_sizeOf hs, Result.andThen_ok]
          rw [if_neg (by rw [← Array.length_toList]; simpa using hlen)]
          first | exact hst | (simp only [Sem.run_bind, Sem.run_pure, Result.andThen_ok]; exact hst)
      · exact h.fail_inv.elim
  · exact h.fail_inv.elim

/-- An object that is forgotten. -/
theorem Tr.kill {ρ ρ' : Ren} {m m1 : Mem} {w w' : World} (h : Tr ρ m w ρ' m1 w') (id : Nat) : Tr ρ m w ρ' { objs := setL m1.objs id .dead, low := min m1.low id } w' := by
  have hold : ∀ {id' : Nat} {o : O} {j : Nat}, objL (setL m1.objs id .dead) id' = some o → o.has j → objL m1.objs id' = some o := by
    intro id' o j h1 h2
    rw [objL_setL] at h1
    split at h1
    · simp only [Option.some.injEq] at h1; subst h1; exact h2.elim
    · exact h1
  refine ⟨⟨fun id' o h1 => ?_, fun i j i' j' o o' q h1 h2 h3 h4 h5 h6 h7 h8 => h.rel.inj i j i' j' o o' q (hold h1 h3) (hold h2 h4) h3 h4 h5 h6 h7 h8, fun id' j q h1 => ⟨by simp only [setL_length]; exact (h.rel.dom _ _ _ h1).1, (h.rel.dom _ _ _ h1).2⟩⟩,
    h.ext.mono (Nat.min_le_left _ _) (Nat.le_refl _), h.keeps.mono (Nat.min_le_left _ _), Nat.le_trans (Nat.min_le_left _ _) h.low, by simp only [setL_length]; exact h.len⟩
  simp only [objL_setL] at h1
  split at h1
  · simp only [Option.some.injEq] at h1; subst h1; trivial
  · exact h.rel.objs id' o h1

theorem setL_append {α : Type} : ∀ (l : List α) (c : α) (id : Nat) (v : α), id < l.length → setL (l ++ [c]) id v = setL l id v ++ [c]
  | [], c, id, v, h => by simp at h
  | a :: l, c, 0, v, h => rfl
  | a :: l, c, id + 1, v, h => by simp only [List.cons_append, setL_nil, setL_zero, setL_succ, setL_append l c id v (by simpa using h)]

theorem run_alloc {P : Program} {w : World} {e : TypeId} {x old : Value} (hz : ∀ w, (zeroValue e).run P w = .ok x w) : (Instr.alloc e true old).run P w = .ok (.pointer (some ⟨w.heap.size, 0, none⟩)) (w.alloc (.cells x.cells e)) := by
  unfold Instr.alloc
  simp only [Sem.run_bind, hz, Result.andThen_ok, run_newVar, Sem.run_pure]

theorem range_cells (z : Array Value) (sz : Nat) (hz : z.size = sz) : ∀ n, ((List.range (n * sz)).map fun i => z[i % z.size]!) = (List.replicate n z.toList).flatten
  | 0 => by simp
  | n + 1 => by
    rw [Nat.succ_mul, List.range_add, List.map_append, range_cells z sz hz n, List.replicate_succ', List.flatten_append, List.flatten_singleton]
    congr 1
    rw [List.map_map]
    apply List.ext_getElem
    · simp [hz]
    · intro i h1 h2
      simp only [List.length_map, List.length_range] at h1
      simp only [List.getElem_map, List.getElem_range, Function.comp, hz, Nat.mul_add_mod_self_right, Nat.mod_eq_of_lt h1, Array.getElem_toList]
      rw [getElem!_pos z i (by omega)]

theorem repl_spec {ρ : Ren} {cs : List V} {xs : List Value} (h : C ρ cs xs) : ∀ n, C ρ (repl n cs) (List.replicate n xs).flatten
  | 0 => .nil
  | n + 1 => by
    simp only [repl, List.replicate_succ, List.flatten_cons]
    exact h.append (repl_spec h n)

theorem run_bytes {P : Program} {t : TypeId} {i : TypeInfo} (h : P.info? t = some i) (w : World) : (typeInfo t).run P w = .ok i w := by
  simp [typeInfo, program, h, Sem.run, Result.andThen]

theorem run_firstCells {P : Program} {w w' : World} {b o : Nat} {ys ms zs : List Value} {e : TypeId} {fz : Nat × Nat} {n sz c : Nat} (h : w.heap[b]? = some (.cells (ys ++ (ms ++ zs)).toArray e fz)) (ho : ys.length = o) (hl : ms.length = n * sz)
    (hw : Below w.heap.size w w') : (Builtin.firstCells sz n (.slice (some ⟨b, o, none⟩) n c)).run P w' = .ok ms.toArray w' := by
  unfold Builtin.firstCells
  rw [← hl]
  exact load_cells h ho hw

theorem flat_part {α : Type} (s : Nat) (g : Nat → List α) (k : Nat) (hl : ∀ j, j < k → (g j).length = s) : ∀ (n i : Nat), i + n ≤ k → ∃ ys zs, (List.range k).flatMap g = ys ++ ((List.range n).flatMap (fun j => g (i + j)) ++ zs) ∧ ys.length = i * s := by
  intro n i hin
  refine ⟨(List.range i).flatMap g, (List.range (k - (i + n))).flatMap (fun j => g (i + n + j)), ?_, flat_len s g i (fun j hj => hl j (by omega))⟩
  have e1 : k = i + (n + (k - (i + n))) := by omega
  conv => lhs; rw [e1, List.range_add, List.range_add]
  simp [List.flatMap_append, List.flatMap_map, Nat.add_assoc]

theorem flatMap_one {α β : Type} (g : α → β) : ∀ l : List α, l.flatMap (fun k => [g k]) = l.map g
  | [] => rfl
  | a :: l => by rw [List.flatMap_cons, flatMap_one g l]; rfl

theorem range_cells1 (l : List UInt8) : (List.range l.length).flatMap (fun k => [Value.int .u8 (l.getD k 0).toNat]) = l.map fun b => Value.int .u8 b.toNat := by
  rw [flatMap_one]
  apply List.ext_getElem
  · simp
  · intro k h1 h2
    simp only [List.length_map] at h2
    simp [h2]

/-- What is appended or copied. -/
theorem srcV_spec {P : Program} {ρ : Ren} {m : Mem} {w : World} {sz n : Nat} {sy : Bool} {cs : List V} {y : V} {Y : Value} (hr : Rel ρ m w) (hy : R ρ y Y) (hf : srcFits y (some sz) = true) (h : Leads (srcV m sz y) (n, sy, cs)) :
    ∃ xs, Builtin.lenOf Y = pure n ∧ C ρ cs xs ∧ xs.length = n * sz ∧ ∀ w', Below w.heap.size w w' → (Builtin.firstCells sz n Y).run P w' = .ok xs.toArray w' := by
  unfold srcV at h
  split at h
  · have h := h.ret_inv
    simp only [Prod.mk.injEq] at h
    obtain ⟨rfl, rfl, rfl⟩ := h
    cases hy
    exact ⟨[], rfl, .nil, by simp, fun w' _ => rfl⟩
  · rename_i a n' c sy'
    split at h
    · rename_i wr e sp vs ho
      cases hj : Nat.beq a.j 0 with
      | false => rw [hj] at h; exact h.fail_inv.elim
      | true =>
        rw [hj] at h
        simp only [cond_true] at h
        have hj0 := beq_eq hj
        have hn : n = n' := by
          cases sy' with
          | true => simp only [cond_true] at h; obtain ⟨cs', _, h2⟩ := h.bind_inv; have := h2.ret_inv; simp only [Prod.mk.injEq] at this; exact this.1
          | false => simp only [cond_false] at h; obtain ⟨cs', _, h2⟩ := h.bind_inv; have := h2.ret_inv; simp only [Prod.mk.injEq] at this; exact this.1
        subst hn
        -- the cells, where the object is told by cells
        have key : ∀ xs, C ρ vs xs → n ≠ 0 ∨ True → (∃ ys ms zs, xs = ys ++ (ms ++ zs) ∧ (n ≠ 0 → ys.length = a.o + a.i * a.s) ∧ ms.length = n * sz ∧ C ρ cs ms) := by
          intro xs hc _
          cases sy' with
          | true =>
            simp only [cond_true] at h
            obtain ⟨cs', h1, h2⟩ := h.bind_inv
            have h2 := h2.ret_inv
            simp only [Prod.mk.injEq] at h2
            obtain ⟨_, _, rfl⟩ := h2
            unfold srcSym at h1
            split at h1
            · rename_i k s f hs
              cases hq : (Nat.beq s sz && Nat.beq a.o 0) with
              | false => rw [hq] at h1; exact h1.fail_inv.elim
              | true =>
                rw [hq] at h1
                simp only [cond_true] at h1
                simp only [Bool.and_eq_true] at hq
                obtain ⟨hle, h1⟩ := h1.need_inv
                have h1 := h1.ret_inv
                subst h1
                obtain ⟨g, zs, rfl, hg, hgl, ht⟩ := hc.arr_inv
                cases ht
                obtain ⟨ys, zs, e1, e2⟩ := flat_part s g k hgl n 0 (by omega)
                simp only [Nat.zero_add, Nat.zero_mul] at e1 e2
                have hss := beq_eq hq.1
                refine ⟨ys, (List.range n).flatMap g, zs, by rw [e1]; simp, fun _ => by rw [e2, hs, beq_eq hq.2]; simp, by rw [flat_len s g n (fun j hj => hgl j (by omega)), hss], ?_⟩
                have := C.arr n s f g [] [] (fun j hj => hg j (by omega)) (fun j hj => hgl j (by omega)) .nil
                simpa using this
            · rename_i k s f s' hs
              cases hq : (Nat.beq s sz && (Nat.beq (s' + 1) sz && Nat.beq a.o 0)) with
              | false => rw [hq] at h1; exact h1.fail_inv.elim
              | true =>
                rw [hq] at h1
                simp only [cond_true] at h1
                simp only [Bool.and_eq_true] at hq
                obtain ⟨hle, h1⟩ := h1.need_inv
                have h1 := h1.ret_inv
                subst h1
                obtain ⟨g, zs, rfl, hg, hgl, ht⟩ := hc.arr_inv
                cases ht
                obtain ⟨ys, zs, e1, e2⟩ := flat_part s g k hgl n a.i hle
                have hss := beq_eq hq.1
                have hs2 := beq_eq hq.2.1
                refine ⟨ys, (List.range n).flatMap (fun j => g (a.i + j)), zs, by rw [e1]; simp, fun _ => by rw [e2, hs, beq_eq hq.2.2, hss]; simp only [Nat.succ_eq_add_one, hs2]; omega, by rw [flat_len s _ n (fun j hj => hgl _ (by omega)), hss], ?_⟩
                have := C.arr n s (fun j => f (a.i + j)) (fun j => g (a.i + j)) [] [] (fun j hj => hg _ (by omega)) (fun j hj => hgl _ (by omega)) .nil
                simpa using this
            · exact h1.fail_inv.elim
          | false =>
            simp only [cond_false] at h
            obtain ⟨cs', h1, h2⟩ := h.bind_inv
            have h2 := h2.ret_inv
            simp only [Prod.mk.injEq] at h2
            obtain ⟨_, _, rfl⟩ := h2
            split at h1
            · rename_i hs
              obtain ⟨ys, ms, zs, rfl, e1, e2, e3⟩ := ldC_spec h1.opt_inv hc
              exact ⟨ys, ms, zs, rfl, fun _ => by rw [e1, hs]; simp, e2, e3⟩
            · rename_i s' hs
              cases hq : Nat.beq n 1 with
              | false => rw [hq] at h1; exact h1.fail_inv.elim
              | true =>
                rw [hq] at h1
                simp only [cond_true] at h1
                have := beq_eq hq
                subst this
                obtain ⟨ys, ms, zs, rfl, e1, e2, e3⟩ := ldA_spec h1 hc
                exact ⟨ys, ms, zs, rfl, fun _ => e1, by rw [e2]; simp, e3⟩
        generalize hY : Y = Y' at hy
        cases hy with
        | slice a n c' c sy b hb hcn he =>
          obtain ⟨b', pre, xs, tl, e', fz, hb', hpre, hc, hh, _, _⟩ := (hr.objs _ _ ho).resolve_left (fun q => by rw [hj0, q.1] at hb; cases hb)
          rw [hj0, hb'] at hb
          cases hb
          obtain ⟨ys, ms, zs, rfl, e1, e2, e3⟩ := key xs hc (.inr trivial)
          refine ⟨ms, rfl, e3, e2, fun w' hw => ?_⟩
          rcases Nat.eq_zero_or_pos n with hn0 | hn0
          · subst hn0
            have : ms = [] := List.length_eq_zero_iff.1 (by simpa using e2)
            subst this
            simp only [Builtin.firstCells, Nat.zero_mul]
            rfl
          · rw [List.append_assoc, List.append_assoc, ← List.append_assoc] at hh
            exact run_firstCells hh (by rw [List.length_append, hpre, e1 (by omega)]) e2 hw
        | empty a x c sy hx he =>
          have hxs : ∃ xs, C ρ vs xs := by
            rcases hr.objs _ _ ho with ⟨_, q⟩ | ⟨b', pre, xs, tl, e', fz, hb', hpre, hc, hh, _, _⟩
            · exact ⟨[], q⟩
            · exact ⟨xs, hc⟩
          obtain ⟨xs, hc⟩ := hxs
          obtain ⟨ys, ms, zs, rfl, e1, e2, e3⟩ := key xs hc (.inr trivial)
          have : ms = [] := List.length_eq_zero_iff.1 (by simpa using e2)
          subst this
          refine ⟨[], rfl, e3, by simp, fun w' hw => ?_⟩
          cases x with
          | none => rfl
          | some x => simp only [Builtin.firstCells, Nat.zero_mul]; rfl
    · exact h.fail_inv.elim
  · rename_i s sy'
    have h1 : sz = 1 := beq_eq hf
    subst h1
    cases hy
    have hcells : ∀ w', (Builtin.firstCells 1 s.size (.string s)).run P w' = .ok (s.data.toList.map fun b => Value.int .u8 b.toNat).toArray w' := by
      intro w'
      have e : s.extract 0 s.size = s := ByteArray.extract_zero_size
      simp only [Builtin.firstCells, e, Sem.run_pure]
      congr 1
      apply Array.ext'
      simp
    cases sy' with
    | true =>
      simp only [cond_true] at h
      have h := h.ret_inv
      simp only [Prod.mk.injEq] at h
      obtain ⟨rfl, rfl, rfl⟩ := h
      refine ⟨_, rfl, ?_, by simp, fun w' _ => hcells w'⟩
      have := C.arr (ρ := ρ) s.size 1 (fun k => [V.sint .u8 (s.data.toList.getD k 0).toNat]) (fun k => [Value.int .u8 (s.data.toList.getD k 0).toNat]) [] [] (fun k hk => .one _ _ _ _ (.sint _ _) rfl .nil) (fun k hk => rfl) .nil
      simp only [List.append_nil] at this
      have e : (List.range s.size).flatMap (fun k => [Value.int .u8 (s.data.toList.getD k 0).toNat]) = s.data.toList.map fun b => Value.int .u8 b.toNat := by
        exact range_cells1 s.data.toList
      rw [e] at this
      exact this
    | false =>
      simp only [cond_false] at h
      have h := h.ret_inv
      simp only [Prod.mk.injEq] at h
      obtain ⟨rfl, rfl, rfl⟩ := h
      refine ⟨_, rfl, ?_, by simp, fun w' _ => hcells w'⟩
      generalize s.data.toList = l
      induction l with
      | nil => exact .nil
      | cons b l ih => exact .one _ _ _ _ (.int _ _) rfl ih
  · exact h.fail_inv.elim

theorem isSl_spec {P : Program} {t : TypeId} (h : isSl P t = true) : ∃ d, P.underlying t = some d ∧ ((∃ e, d = .slice e) ∨ d = .string) := by
  unfold isSl at h; split at h
  · rename_i e hu; exact ⟨_, hu, .inl ⟨e, rfl⟩⟩
  · rename_i hu; exact ⟨_, hu, .inr rfl⟩
  · cases h

section
variable {P : Program} {w : World} {t t2 ty e : TypeId} {d : TypeDesc} {i : TypeInfo} {z : Value} (ht : P.underlying t = some (.slice e)) (ht2 : P.underlying t2 = some d) (hd : (∃ e, d = .slice e) ∨ d = .string) (hi : P.info? e = some i)
include ht ht2 hd hi

/-- append, where it must grow. -/
theorem append_grow (hz : i.zero = some z) {base : Option Addr} {Y : Value} {sLen sCap n : Nat} {olds news : List Value} (hY : Builtin.lenOf Y = pure n)
    (hfo : ∀ w', Below w.heap.size w w' → (Builtin.firstCells i.size sLen (.slice base sLen sCap)).run P w' = .ok olds.toArray w')
    (hf : ∀ w', Below w.heap.size w w' → (Builtin.firstCells i.size n Y).run P w' = .ok news.toArray w')
    (hg : sCap < sLen + n) (hby : 0 < i.bytes) (hb : (sLen + n) * i.bytes ≤ 140737488355328) :
    (Builtin.append_ #[t, t2] ty #[.slice base sLen sCap, Y]).run P w =
      .ok (.slice (some ⟨w.heap.size, 0, none⟩) (sLen + n) (grownCap w (sLen + n) sCap e))
        (w.drew.alloc (.cells ((olds ++ news) ++ (Builtin.zeroCells z.cells (grownCap w (sLen + n) sCap e - (sLen + n))).toList).toArray e)) := by
  have hn : ¬ (sLen + n ≤ sCap) := by omega
  have h48 := growslice_fits hg hb
  have h48' : ¬ (281474976710656 < Builtin.nextslicecap (sLen + n) sCap * i.bytes) := by omega
  have hb0 : i.bytes ≠ 0 := by omega
  have hdw : Below w.heap.size w w.drew := ⟨rfl, rfl, rfl, Nat.le_refl _, fun _ _ => rfl⟩
  rcases hd with ⟨e2, rfl⟩ | rfl
  all_goals
    simp [Builtin.append_, run_underlying ht, run_underlying ht2, sizeOf, typeInfo, zeroValue, hi, hz, hY, hn, h48', hb0, Question.forced, hf w.drew hdw, hfo w.drew hdw, newRow, grownCap]
    congr 2
    apply Array.ext'
    simp [List.append_assoc]

/-- append, where there is room. -/
theorem append_place {eb : TypeId} {b o : Nat} {Y : Value} {sLen sCap n : Nat} {news : List Value} {cur : Array Value} (hY : Builtin.lenOf Y = pure n)
    (hf : ∀ w', Below w.heap.size w w' → (Builtin.firstCells i.size n Y).run P w' = .ok news.toArray w') (hh : w.heap[b]? = some (.cells cur eb (0, 0)))
    (hl : news.length = n * i.size) (h1 : ∀ u ∈ news, u.oneCell' = true) (hg : sLen + n ≤ sCap) (hfit : o + sLen * i.size + news.length ≤ cur.size) :
    (Builtin.append_ #[t, t2] ty #[.slice (some ⟨b, o, none⟩) sLen sCap, Y]).run P w =
      .ok (.slice (some ⟨b, o, none⟩) (sLen + n) sCap) (w.setRow b (cur.toList.take (o + sLen * i.size) ++ news ++ cur.toList.drop (o + sLen * i.size + news.length)).toArray) := by
  have hst := run_storeCells_at P b (o + sLen * i.size) eb news 0 cur w hh (by simpa using hfit) h1
  simp only [Nat.add_zero] at hst
  rcases hd with ⟨e2, rfl⟩ | rfl
  all_goals simp [Builtin.append_, run_underlying ht, run_underlying ht2, sizeOf, typeInfo, hi, hY, hg, hf w (.refl _ _), Addr.add_lit, hst]

/-- append of nothing. -/
theorem append_nothing {base : Option Addr} {Y : Value} {n c : Nat} (hY : Builtin.lenOf Y = pure 0) (hn : n ≤ c) (hf : ∀ w', Below w.heap.size w w' → (Builtin.firstCells i.size 0 Y).run P w' = .ok #[] w') :
    (Builtin.append_ #[t, t2] ty #[.slice base n c, Y]).run P w = .ok (.slice base n c) w := by
  rcases hd with ⟨e2, rfl⟩ | rfl
  all_goals cases base <;> simp [Builtin.append_, run_underlying ht, run_underlying ht2, sizeOf, typeInfo, hi, hY, hn, hf w (.refl _ _), storeCells]
end

theorem zeroOk_spec {P : Program} {e : TypeId} {sz : Nat} (h : zeroOk P e sz = true) : ∃ i z, P.info? e = some i ∧ i.zero = some z ∧ z.cells.size = sz := by
  unfold zeroOk at h
  split at h
  · rename_i zv hz
    split at h
    · rename_i cs hl
      unfold zeroT at hz
      split at hz
      · rename_i i hi
        obtain ⟨x, hx, rfl⟩ := Option.map_eq_some_iff.1 hz
        have := lay_spec hl (ofVal_spec ⟨fun _ _ => none, fun _ => (0, 0)⟩ x)
        exact ⟨i, x, hi, hx, by rw [← Array.length_toList, this.len]; exact beq_eq h⟩
      · cases hz
    · cases h
  · cases h

/-- append, growing: what is left. -/
theorem grow_tr {ρ : Ren} {m : Mem} {w : World} (hr : Rel ρ m w) {e : TypeId} {cs : List V} {olds news : List Value} {z : Array Value} {k n sz cap : Nat} (hc : C ρ cs (olds ++ news)) (ho : olds.length = n * sz) (hn : news.length = k * sz)
    (hz : z.size = sz) (hcap : n + k ≤ cap) (sy : Bool) :
    ∃ ρ', R ρ' (.slice (ptrTo m.objs.length) (n + k) (.rest sz) sy) (.slice (some ⟨w.heap.size, 0, none⟩) (n + k) cap) ∧
      Tr ρ m w ρ' (m.push (.cells true e true cs)) (w.drew.alloc (.cells ((olds ++ news) ++ (Builtin.zeroCells z (cap - (n + k))).toList).toArray e)) := by
  have hd : Below w.heap.size w w.drew := ⟨rfl, rfl, rfl, Nat.le_refl _, fun _ _ => rfl⟩
  obtain ⟨ρ', h1, h2, h3⟩ := Tr.pushS (hr.below hd) hc e true (Builtin.zeroCells z (cap - (n + k))).toList (by simp)
  refine ⟨ρ', ?_, (Tr.below hr hd).trans h2⟩
  have hb : ρ' m.objs.length 0 = some w.heap.size := h1
  refine .sliceAt hb hcap ?_ (by show (ρ'.k m.objs.length).2 + (0 + 0 * 0) = 0; rw [h3])
  unfold CapIs
  simp only [ptrTo]
  rw [h3]
  simp only [List.length_append, ho, hn, Array.length_toList, size_zeroCells, hz]
  have : cap = n + k + (cap - (n + k)) := by omega
  conv => lhs; rw [this]
  simp only [Nat.add_mul, Nat.zero_mul, Nat.zero_add]

/-- append in place, at the head of a block of which the rest is not known. -/
theorem place_tr {ρ : Ren} {m : Mem} {w : World} (hr : Rel ρ m w) {id b : Nat} {e : TypeId} {sp : Bool} {vs cs : List V} {xs tl olds news zs : List Value} (ho : objL m.objs id = some (.cells true e sp vs)) (hb : ρ id 0 = some b)
    (hh : w.heap[b]? = some (.cells (xs ++ tl).toArray e (0, 0))) (hk : ((xs ++ tl).length, 0) = ρ.k id) (hc : C ρ cs (olds ++ news)) (hl : ((olds ++ news) ++ zs).length = (xs ++ tl).length) :
    ∃ ρ' : Ren, ρ' m.objs.length 0 = some b ∧ ρ'.k m.objs.length = ρ.k id ∧ Tr ρ m w ρ' { objs := setL m.objs id .dead ++ [.cells true e true cs], low := min m.low id } (w.setRow b ((olds ++ news) ++ zs).toArray) := by
  have hidlt : id < m.objs.length := objL_lt ho
  obtain ⟨ρ', h00, hsub, hkk, hnew⟩ : ∃ ρ' : Ren, ρ' m.objs.length 0 = some b ∧ Sub ρ ρ' ∧ ρ'.k m.objs.length = ρ.k id ∧
      (∀ id' j b', ρ' id' j = some b' → (ρ id' j = some b' ∧ id' < m.objs.length) ∨ (id' = m.objs.length ∧ j = 0 ∧ b' = b)) := by
    refine ⟨⟨fun id' j => if id' = m.objs.length then (if j = 0 then some b else none) else ρ id' j, fun id' => if id' = m.objs.length then ρ.k id else ρ.k id'⟩, by simp, fun id' j b' h => ?_, by simp, fun id' j b' h => ?_⟩
    · have := (hr.dom id' j b' h).1
      simp only
      rw [if_neg (by omega), if_neg (by omega)]
      exact ⟨h, rfl⟩
    · simp only at h
      split at h
      · split at h
        · simp only [Option.some.injEq] at h; exact .inr ⟨by assumption, by assumption, h.symm⟩
        · cases h
      · exact .inl ⟨h, (hr.dom id' j b' h).1⟩
  -- an old object that is told is another one, and lies elsewhere
  have hold : ∀ {id' : Nat} {o : O}, objL (setL m.objs id .dead) id' = some o → o ≠ .dead → objL m.objs id' = some o ∧ id' ≠ id := by
    intro id' o h1 h2
    rw [objL_setL] at h1
    split at h1
    · simp only [Option.some.injEq] at h1; exact (h2 h1.symm).elim
    · rename_i hne
      exact ⟨h1, fun q => hne ⟨q.symm, hidlt⟩⟩
  have hsz : ∀ {id' : Nat} {o : O}, objL (setL m.objs id .dead ++ [.cells true e true cs]) id' = some o → (id' < m.objs.length ∧ objL (setL m.objs id .dead) id' = some o) ∨ (id' = m.objs.length ∧ o = .cells true e true cs) := by
    intro id' o h1
    have := objL_append _ _ _ _ h1
    rwa [setL_length] at this
  have hapart : ∀ {id' j : Nat} {o : O}, objL m.objs id' = some o → id' ≠ id → o.has j → ρ id' j = some b → False := fun h1 h2 h3 h4 => hr.inj id 0 _ _ _ _ b ho h1 rfl h3 (.inl (Ne.symm h2)) rfl hb h4
  refine ⟨ρ', h00, hkk, ⟨fun id' o h1 => ?_, fun i1 j1 i2 j2 o1 o2 q h1 h2 h3 h4 h5 h6 h7 h8 => ?_, fun id' j q h1 => ?_⟩, ⟨hsub, fun id' j q h1 => ?_⟩, ⟨rfl, rfl, rfl, by rw [setRow_size]; exact Nat.le_refl _, fun q hq hnq => ?_⟩, Nat.min_le_left _ _, by simp [setL_length]⟩
  · rcases hsz h1 with ⟨h2, h3⟩ | ⟨h2, h3⟩
    · by_cases hd : o = .dead
      · subst hd; trivial
      · obtain ⟨h4, h5⟩ := hold h3 hd
        refine (hr.objs id' o h4).keep hsub (fun j q hq => by rcases hnew _ _ _ hq with h6 | h6; exact h6.1; omega) (fun j q hj hq => setRow_other fun hne => ?_)
        subst hne
        exact hapart h4 h5 hj hq
    · subst h3; subst h2
      refine .inr ⟨b, [], olds ++ news, zs, e, (0, 0), h00, by rw [hkk, ← hk]; rfl, hc.mono hsub, setRow_heap w b _ _ e _ hh, by simp, fun _ => ⟨rfl, rfl, by rw [hkk, ← hk, hl]⟩⟩
  · have nd : ∀ {o : O} {j : Nat}, o.has j → o ≠ .dead := by intro o j h1 h2; subst h2; exact h1
    rcases hsz h1 with ⟨k1, k2⟩ | ⟨k1, k2⟩
    · obtain ⟨k3, k4⟩ := hold k2 (nd h3)
      rcases hsz h2 with ⟨l1, l2⟩ | ⟨l1, l2⟩
      · obtain ⟨l3, l4⟩ := hold l2 (nd h4)
        rcases hnew _ _ _ h7 with ⟨h7, _⟩ | h7
        · rcases hnew _ _ _ h8 with ⟨h8, _⟩ | h8
          · exact hr.inj i1 j1 i2 j2 o1 o2 q k3 l3 h3 h4 h5 h6 h7 h8
          · omega
        · omega
      · rcases hnew _ _ _ h8 with h8 | ⟨_, _, h8⟩
        · omega
        · subst h8
          rcases hnew _ _ _ h7 with ⟨h7, _⟩ | h7
          · exact hapart k3 k4 h3 h7
          · omega
    · rcases hnew _ _ _ h7 with h7 | ⟨_, hj0, h7⟩
      · omega
      · subst h7
        rcases hsz h2 with ⟨l1, l2⟩ | ⟨l1, l2⟩
        · obtain ⟨l3, l4⟩ := hold l2 (nd h4)
          rcases hnew _ _ _ h8 with ⟨h8, _⟩ | h8
          · exact hapart l3 l4 h4 h8
          · omega
        · rcases hnew _ _ _ h8 with h8 | ⟨_, hj1, _⟩
          · omega
          · rcases h5 with h5 | h5 <;> omega
  · rcases hnew _ _ _ h1 with ⟨h2, h3⟩ | ⟨h2, _, h3⟩
    · exact ⟨by simp [setL_length]; omega, by rw [setRow_size]; exact (hr.dom _ _ _ h2).2⟩
    · exact ⟨by simp [setL_length]; omega, by rw [setRow_size, h3]; exact (hr.dom _ _ _ hb).2⟩
  · rcases hnew _ _ _ h1 with ⟨h2, h3⟩ | ⟨h2, _, h3⟩
    · exact .inl h2
    · exact .inr ⟨by omega, .inr ⟨id, 0, Nat.min_le_right _ _, by rw [h3]; exact hb⟩⟩
  · refine setRow_other fun hne => ?_
    subst hne
    exact hnq id 0 (Nat.min_le_right _ _) hb

theorem appendV_spec {P : Program} {ρ : Ren} {m m' : Mem} {w : World} {t t2 ty : TypeId} {x y v : V} {X Y : Value} (hr : Rel ρ m w) (hx : R ρ x X) (hy : R ρ y Y) (h : Leads (appendV P m t t2 x y) (v, m')) :
    ∃ ρ' w' z, (Builtin.append_ #[t, t2] ty #[X, Y]).run P w = .ok z w' ∧ R ρ' v z ∧ Tr ρ m w ρ' m' w' := by
  unfold appendV at h
  split at h
  · rename_i e hu
    split at h
    · rename_i sz by0 hsz hby hsl hzo
      simp only [Bool.and_eq_true] at hsl
      obtain ⟨hsl, hsf⟩ := hsl
      obtain ⟨d, hu2, hdd⟩ := isSl_spec hsl
      obtain ⟨sz', hsz', hzo⟩ := Option.map_eq_some_iff.1 hzo
      rw [hsz] at hsz'
      cases hsz'
      obtain ⟨i, z, hi, hz, hzs⟩ := zeroOk_spec hzo
      have hisz : i.size = sz := by simpa [sizeT, hi] using hsz
      have hiby : i.bytes = by0 + 1 := by simpa [bytesT, hi] using hby
      subst hisz
      obtain ⟨⟨k, sy, new⟩, h1, h2⟩ := h.bind_inv
      clear h
      simp only at h2
      rw [hsz] at hsf
      obtain ⟨news, hlY, hcn, hln, hfn⟩ := srcV_spec (P := P) hr hy hsf h1
      -- growing from a slice
      have grow : ∀ {base : Option Addr} {n cap : Nat} {olds : List Value} {oc : List V} (sy' : Bool), C ρ oc olds → olds.length = n * i.size →
          (∀ w', Below w.heap.size w w' → (Builtin.firstCells i.size n (.slice base n cap)).run P w' = .ok olds.toArray w') → cap < n + k → (n + k) * (by0 + 1) ≤ 140737488355328 →
          ∃ ρ' w' z, (Builtin.append_ #[t, t2] ty #[.slice base n cap, Y]).run P w = .ok z w' ∧ R ρ' (.slice (ptrTo m.objs.length) (n + k) (.rest i.size) sy') z ∧ Tr ρ m w ρ' (m.push (.cells true e true (oc ++ new))) w' := by
        intro base n cap olds oc sy' hco hlo hfo hg hb
        obtain ⟨ρ', h3, h4⟩ := grow_tr hr (hco.append hcn) (z := z.cells) (cap := grownCap w (n + k) cap e) hlo hln hzs (grownCap_ge _ _ _ _) sy' (e := e)
        exact ⟨ρ', _, _, append_grow hu hu2 hdd hi hz hlY hfo hfn hg (by omega) (by rw [hiby]; exact hb), h3, h4⟩
      split at h2
      · cases hx
        cases hq : (!sy && Nat.beq k 0) with
        | true =>
          rw [hq] at h2
          simp only [cond_true] at h2
          have h2 := h2.ret_inv
          simp only [Prod.mk.injEq] at h2
          obtain ⟨rfl, rfl⟩ := h2
          simp only [Bool.and_eq_true] at hq
          have hk := beq_eq hq.2
          subst hk
          have : news = [] := List.length_eq_zero_iff.1 (by simpa using hln)
          subst this
          exact ⟨ρ, w, _, append_nothing hu hu2 hdd hi hlY (Nat.le_refl _) hfn, .nilSlice, .refl hr⟩
        | false =>
          rw [hq] at h2
          simp only [cond_false] at h2
          obtain ⟨hb, h2⟩ := h2.ask_inv
          have h2 := h2.ret_inv
          simp only [Prod.mk.injEq] at h2
          obtain ⟨rfl, rfl⟩ := h2
          by_cases hk : k = 0
          · subst hk
            have : news = [] := List.length_eq_zero_iff.1 (by simpa using hln)
            subst this
            refine ⟨ρ, w, _, append_nothing hu hu2 hdd hi hlY (Nat.le_refl _) hfn, .empty _ _ _ _ (fun _ => ?_) (by simp), .pushNone hr hcn e true⟩
            cases sy with
            | true => rfl
            | false => simp at hq
          · obtain ⟨ρ', w', zz, h3, h4, h5⟩ := grow (base := none) (n := 0) (cap := 0) (olds := []) (oc := []) sy .nil (by simp) (fun w' _ => rfl) (by omega) (by simpa using hb)
            simp only [Nat.zero_add, List.nil_append] at h3 h4 h5
            exact ⟨ρ', w', zz, h3, h4, h5⟩
      · rename_i a n c sx
        obtain ⟨⟨n', sx', oc⟩, h3, h4⟩ := h2.bind_inv
        clear h2
        obtain ⟨ob, occ, nx, hX⟩ : ∃ ob occ nx, X = .slice ob nx occ := by cases hx <;> exact ⟨_, _, _, rfl⟩
        obtain ⟨olds, hlX, hco, hlo, hfo⟩ := srcV_spec (P := P) hr hx rfl h3
        subst hX
        have hnx : n' = nx := by
          simp only [Builtin.lenOf] at hlX
          exact (Sem.pure.inj hlX).symm
        subst hnx
        have hnn : n' = n := by
          generalize hY : Value.slice ob n' occ = Y' at hx
          cases hx with
          | slice a n c' c sy b hb hcn he => cases hY; rfl
          | empty a x c sy hx he => cases hY; rfl
        subst hnn
        simp only at h4
        split at h4
        · rename_i cap
          cases hq : (sx || sy) with
          | true => rw [hq] at h4; exact h4.fail_inv.elim
          | false =>
            rw [hq] at h4
            simp only [cond_false] at h4
            simp only [Bool.or_eq_false_iff] at hq
            have hocc : occ = cap := by
              generalize hY : Value.slice ob n' occ = Y' at hx
              cases hx with
              | slice a n c' c sy b hb hcn he => cases hY; exact he
              | empty a x c sy hx he => cases hY; exact (he _ rfl).symm
            subst hocc
            cases hk0 : Nat.beq k 0 with
            | true =>
              rw [hk0] at h4
              simp only [cond_true] at h4
              have h4 := h4.ret_inv
              simp only [Prod.mk.injEq] at h4
              obtain ⟨rfl, rfl⟩ := h4
              have hk := beq_eq hk0
              subst hk
              have : news = [] := List.length_eq_zero_iff.1 (by simpa using hln)
              subst this
              have hle : n' ≤ occ := by
                generalize hY : Value.slice ob n' occ = Y' at hx
                cases hx with
                | slice a n c' c sy b hb hcn he => cases hY; exact hcn
                | empty a x c sy hx he => cases hY; exact Nat.le_refl _
              rw [hq.1] at hx
              exact ⟨ρ, w, _, append_nothing hu hu2 hdd hi hlY hle hfn, hx, .refl hr⟩
            | false =>
            rw [hk0] at h4
            simp only [cond_false] at h4
            have hkpos : 0 < k := by
              rcases Nat.eq_zero_or_pos k with q | q
              · subst q; cases hk0
              · exact q
            cases hfit : Nat.ble (n' + k) occ with
            | true =>
              rw [hfit] at h4
              simp only [cond_true] at h4
              have hfit := ble_le hfit
              split at h4
              · rename_i e' sp vs ho hs
                cases hj : Nat.beq a.j 0 with
                | false => rw [hj] at h4; exact h4.fail_inv.elim
                | true =>
                  rw [hj] at h4
                  simp only [cond_true] at h4
                  obtain ⟨vs', h5, h6⟩ := h4.bind_inv
                  have h6 := h6.ret_inv
                  simp only [Prod.mk.injEq] at h6
                  obtain ⟨rfl, rfl⟩ := h6
                  have hj0 := beq_eq hj
                  generalize hY : Value.slice ob n' occ = Y' at hx
                  cases hx with
                  | slice a n c' c sy b hb hcn' he =>
                    cases hY
                    obtain ⟨b', xs, tl, e9, fz, hb', hc, hh, htl, hwr⟩ := (ORel.wr_inv (hr.objs _ _ ho)).resolve_left (fun q => by rw [hj0, q.1] at hb; cases hb)
                    obtain ⟨rfl, rfl, hkk⟩ := hwr rfl
                    have hoff0 : (ρ.k a.id).2 + (a.o + a.i * a.s) = a.o + a.i * a.s := by rw [← hkk]; exact Nat.zero_add _
                    rw [hj0, hb'] at hb
                    cases hb
                    obtain ⟨ys, ms, zs, rfl, e1, e2, e3⟩ := stC_spec h5.opt_inv hc hcn hln
                    have hbd : a.o + a.i * a.s + n' * i.size + news.length ≤ (ys ++ (ms ++ zs) ++ tl).toArray.size := by
                      simp only [List.size_toArray, List.length_append, hs, Nat.mul_zero, Nat.add_zero]
                      omega
                    have hrun := append_place (ty := ty) hu hu2 hdd hi hlY (sLen := n') (sCap := occ) hfn hh hln hcn.one_of hfit hbd
                    have hcs := splice_eq (zs := zs) (tl := tl) (o := a.o + a.i * a.s + n' * i.size) (by rw [hs]; simpa using e1) e2 hln
                    rw [← hln] at hcs
                    rw [hcs] at hrun
                    refine ⟨ρ, _, _, (by rw [hoff0]; exact hrun), .sliceAt (by rw [hj0]; exact hb') hfit rfl hoff0, store_tr hr ho hb' hh hkk htl (by omega) e3⟩
                  | empty a x c sy hx he =>
                    cases hY
                    omega
              · exact h4.fail_inv.elim
            | false =>
              rw [hfit] at h4
              simp only [cond_false] at h4
              obtain ⟨hb, h4⟩ := h4.ask_inv
              have h4 := h4.ret_inv
              simp only [Prod.mk.injEq] at h4
              obtain ⟨rfl, rfl⟩ := h4
              exact grow false hco hlo hfo (ble_gt hfit) hb
        · rename_i e'
          split at h4
          · rename_i e2' sp vs ho hs
            cases hq : (Nat.beq e' i.size && (Nat.beq a.o 0 && (Nat.beq a.j 0 && Nat.beq e2' e))) with
            | false => rw [hq] at h4; exact h4.fail_inv.elim
            | true =>
              rw [hq] at h4
              simp only [cond_true] at h4
              simp only [Bool.and_eq_true] at hq
              obtain ⟨q1, q2, q3, q4⟩ := hq
              have q1 := beq_eq q1
              have q2 := beq_eq q2
              have q3 := beq_eq q3
              have q4 := beq_eq q4
              subst q1; subst q4
              obtain ⟨hb, h4⟩ := h4.ask_inv
              have h4 := h4.ret_inv
              simp only [Prod.mk.injEq] at h4
              obtain ⟨rfl, rfl⟩ := h4
              have hidlt : a.id < m.objs.length := objL_lt ho
              have hobjs : ∀ cc : O, setL m.objs a.id O.dead ++ [cc] = setL (m.objs ++ [cc]) a.id O.dead := fun cc => (setL_append m.objs cc a.id _ hidlt).symm
              have viaGrow : ∀ {base : Option Addr} {cap : Nat}, Value.slice ob n' occ = .slice base n' cap → cap < n' + k → ∃ ρ' w' z, (Builtin.append_ #[t, t2] ty #[.slice base n' cap, Y]).run P w = .ok z w' ∧ R ρ' (.slice (ptrTo m.objs.length) (n' + k) (.rest i.size) (sx || sy)) z ∧
                  Tr ρ m w ρ' { objs := setL m.objs a.id O.dead ++ [O.cells true e2' true (oc ++ new)], low := min m.low a.id } w' := by
                intro base cap hY hg
                cases hY
                obtain ⟨ρ', w', zz, k1, k2, k3⟩ := grow (sx || sy) hco hlo hfo hg hb
                refine ⟨ρ', w', zz, k1, k2, ?_⟩
                rw [hobjs]
                exact k3.kill a.id
              generalize hY : Value.slice ob n' occ = Y' at hx viaGrow
              cases hx with
              | slice a n c' c sy2 b hb' hcn' he =>
                by_cases hfit : n' + k ≤ c'
                · cases hY
                  obtain ⟨b', xs, tl, e9, fz, hb2, hc, hh, htl, hwr⟩ := (ORel.wr_inv (hr.objs _ _ ho)).resolve_left (fun q => by rw [q3, q.1] at hb'; cases hb')
                  obtain ⟨rfl, rfl, hkk⟩ := hwr rfl
                  rw [q3, hb2] at hb'
                  cases hb'
                  unfold CapIs at he
                  have hoff1 : a.o + a.i * a.s = 0 := by rw [q2, hs]; simp
                  have hoff : (ρ.k a.id).2 + (a.o + a.i * a.s) = 0 := by rw [← hkk, hoff1]
                  rw [hoff1, ← hkk] at he
                  have htot : (n' + k) * i.size ≤ (xs ++ tl).length := by
                    have he : 0 + occ * i.size = (xs ++ tl).length := he
                    rw [← he, Nat.zero_add]
                    exact Nat.mul_le_mul_right _ hfit
                  have hsplit : xs ++ tl = (xs ++ tl).take (n' * i.size) ++ (((xs ++ tl).drop (n' * i.size)).take (k * i.size) ++ ((xs ++ tl).drop (n' * i.size)).drop (k * i.size)) := by rw [List.take_append_drop, List.take_append_drop]
                  have hl1 : ((xs ++ tl).take (n' * i.size)).length = n' * i.size := by
                    rw [List.length_take]
                    rw [Nat.add_mul] at htot
                    omega
                  have hl2 : (((xs ++ tl).drop (n' * i.size)).take (k * i.size)).length = k * i.size := by
                    rw [List.length_take, List.length_drop]
                    rw [Nat.add_mul] at htot
                    omega
                  have holds : olds = (xs ++ tl).take (n' * i.size) := by
                    have r1 := hfo w (.refl _ _)
                    have r2 := run_firstCells (P := P) (w' := w) (b := b) (o := 0) (ys := []) (ms := (xs ++ tl).take (n' * i.size)) (zs := (xs ++ tl).drop (n' * i.size)) (c := occ) (by simpa using hh) rfl hl1 (.refl _ _)
                    rw [hoff] at r1
                    rw [r1] at r2
                    simpa using r2
                  have hbd : 0 + n' * i.size + news.length ≤ (xs ++ tl).toArray.size := by
                    rw [Nat.add_mul] at htot
                    simp only [List.size_toArray]
                    omega
                  have hrun := append_place (ty := ty) hu hu2 hdd hi hlY (sLen := n') (sCap := occ) (o := 0) hfn hh hln hcn.one_of hfit hbd
                  have hcs : ((xs ++ tl).take (0 + n' * i.size) ++ news ++ (xs ++ tl).drop (0 + n' * i.size + news.length)) = ((olds ++ news) ++ ((xs ++ tl).drop (n' * i.size)).drop (k * i.size)) := by
                    rw [Nat.zero_add, holds, hln, List.drop_drop]
                  rw [hcs] at hrun
                  obtain ⟨ρ', k1, k2, k3⟩ := place_tr hr ho hb2 hh hkk (hco.append hcn) (zs := ((xs ++ tl).drop (n' * i.size)).drop (k * i.size)) (by
                    conv => rhs; rw [hsplit]
                    rw [holds]
                    simp only [List.length_append, hl1, hl2, hln]
                    first | done | omega)
                  refine ⟨ρ', _, _, (by rw [hoff]; exact hrun), ?_, k3⟩
                  exact R.sliceAt (ρ := ρ') (a := ptrTo m.objs.length) k1 hfit (by unfold CapIs; simp only [ptrTo]; rw [k2, ← hkk]; exact he) (by show (ρ'.k m.objs.length).2 + (0 + 0 * 0) = 0; rw [k2, ← hkk])
                · exact viaGrow rfl (by omega)
              | empty a x c sy2 hx he =>
                by_cases hk : k = 0
                · subst hk
                  have : news = [] := List.length_eq_zero_iff.1 (by simpa using hln)
                  subst this
                  cases hY
                  have : olds = [] := List.length_eq_zero_iff.1 (by simpa using hlo)
                  subst this
                  refine ⟨ρ, w, _, append_nothing hu hu2 hdd hi hlY (Nat.le_refl _) hfn, .empty _ _ _ _ (fun q => by rw [hx q]; rfl) (by simp), ?_⟩
                  rw [hobjs]
                  exact (Tr.pushNone hr (by simpa using hco.append hcn) e2' true).kill a.id
                · exact viaGrow rfl (by omega)
          · exact h4.fail_inv.elim
      · exact h2.fail_inv.elim
    · exact h.fail_inv.elim
  · exact h.fail_inv.elim

theorem flat_const {α : Type} (xs : List α) : ∀ n, (List.range n).flatMap (fun _ => xs) = (List.replicate n xs).flatten
  | 0 => rfl
  | n + 1 => by rw [List.range_succ, List.flatMap_append, flat_const xs n, List.replicate_succ', List.flatten_append]; simp

theorem makeV_spec {P : Program} {ρ : Ren} {m m' : Mem} {w : World} {t : TypeId} {l c v : V} {L C' : Value} (hr : Rel ρ m w) (hl : R ρ l L) (hc : R ρ c C') (h : Leads (makeV P m t l c) (v, m')) :
    ∃ ρ' w' x, (Instr.makeSlice t L C').run P w = .ok x w' ∧ R ρ' v x ∧ Tr ρ m w ρ' m' w' := by
  unfold makeV at h
  split at h
  · rename_i e k1 l' s1 k2 c' s2 hu h1 h2
    rw [isInt_spec h1 hl, isInt_spec h2 hc]
    split at h
    · rename_i i hi
      split at h
      · rename_i z hz
        split at h
        · rename_i cs hcs
          cases hb : Nat.beq (wds cs) i.size with
          | false => rw [hb] at h; exact h.fail_inv.elim
          | true =>
            rw [hb] at h
            simp only [cond_true] at h
            have hw := beq_eq hb
            obtain ⟨⟨q1, q2, q3, q4⟩, h⟩ := h.ask_inv
            have h := h.ret_inv
            simp only [Prod.mk.injEq] at h
            obtain ⟨rfl, rfl⟩ := h
            have hC := lay_spec hcs (ofVal_spec ρ z)
            have hzs : z.cells.size = i.size := by rw [← Array.length_toList, hC.len, hw]
            have hrun := run_make (P := P) w t e i z hu hi hz k1 k2 l' c' q1 q2 q3 q4
            have hcells : madeCells z.cells (c'.toNat * i.size) = (List.replicate c'.toNat z.cells.toList).flatten.toArray := by
              unfold madeCells
              apply Array.ext'
              rw [Array.toList_map, Array.toList_range, range_cells z.cells i.size hzs]
            rw [hcells] at hrun
            have hC' : C ρ (bif s1 || s2 then [.arr c'.toNat (wds cs) (fun _ => cs)] else repl c'.toNat cs) (List.replicate c'.toNat z.cells.toList).flatten := by
              cases s1 || s2 with
              | true =>
                have := C.arr (ρ := ρ) c'.toNat (wds cs) (fun _ => cs) (fun _ => z.cells.toList) [] [] (fun _ _ => hC) (fun _ _ => hC.len) .nil
                rw [List.append_nil, flat_const] at this
                exact this
              | false => exact repl_spec hC _
            obtain ⟨ρ', h5, h6, h7⟩ := Tr.push hr hC' e
            exact ⟨ρ', _, _, hrun, .sliceAt (a := ptrTo m.objs.length) h5 (by omega) rfl (by show (ρ'.k m.objs.length).2 + (0 + 0 * 0) = 0; rw [h7]), h6⟩
        · exact h.fail_inv.elim
      · exact h.fail_inv.elim
    · exact h.fail_inv.elim
  · exact h.fail_inv.elim

theorem memOp_spec {P : Program} {ρ : Ren} {m m' : Mem} {w : World} {tm : List V} {a : Act} {o : Oper} {t : T (V × Mem)} {v : V} (hr : Rel ρ m w) (htr : TR ρ tm a.tmps) (h : memOp P m tm o.op = some t) (hl : Leads t (v, m')) :
    ∃ ρ' w' nx x, (execOp a.eval o).run P w = .ok nx w' ∧ (nx = .value x ∨ (nx = .skip ∧ x = undef)) ∧ R ρ' v x ∧ Tr ρ m w ρ' m' w' := by
  unfold memOp at h
  split at h
  · rename_i e ho
    simp only [Option.some.injEq] at h; subst h
    split at hl
    · rename_i z hz
      split at hl
      · rename_i cs hcs
        have hl := hl.ret_inv
        simp only [Prod.mk.injEq] at hl
        obtain ⟨rfl, rfl⟩ := hl
        obtain ⟨x, hx, hw⟩ := run_zero hz
        have hc := lay_spec hcs (hx ρ)
        obtain ⟨ρ', h1, h2, h3⟩ := Tr.push hr hc e
        simp only [Array.toArray_toList] at h2
        refine ⟨ρ', _, _, _, ?_, .inl rfl, .ptrAt (a := ptrTo m.objs.length) (o := 0) h1 (by show (ρ'.k m.objs.length).2 + (0 + 0 * 0) = 0; rw [h3]), h2⟩
        simp only [execOp, ho]
        exact value_run (run_alloc hw)
      · exact hl.fail_inv.elim
    · exact hl.fail_inv.elim
  · rename_i e y ho
    simp only [Option.some.injEq] at h; subst h
    split at hl
    · rename_i cs hcs
      have hl := hl.ret_inv
      simp only [Prod.mk.injEq] at hl
      obtain ⟨rfl, rfl⟩ := hl
      have hc := lay_spec hcs (ev_spec htr y)
      obtain ⟨ρ', h1, h2, h3⟩ := Tr.push hr hc e
      simp only [Array.toArray_toList] at h2
      refine ⟨ρ', _, _, _, ?_, .inl rfl, .ptrAt (a := ptrTo m.objs.length) (o := 0) h1 (by show (ρ'.k m.objs.length).2 + (0 + 0 * 0) = 0; rw [h3]), h2⟩
      simp only [execOp, ho]
      refine value_run ?_
      simp only [Instr.box, Sem.run_bind, run_newVar, Result.andThen_ok, Sem.run_pure]
    · exact hl.fail_inv.elim
  · rename_i ty n parts ho
    simp only [Option.some.injEq] at h; subst h
    split at hl
    · rename_i e hu
      split at hl
      · rename_i sz z hsz hz
        split at hl
        · rename_i cs hcs
          cases hb : (Nat.ble (n * sz) 16777216 && (Nat.beq (wds cs) sz && Nat.blt 0 (n * sz))) with
          | false => rw [hb] at hl; exact hl.fail_inv.elim
          | true =>
            rw [hb] at hl
            simp only [cond_true] at hl
            simp only [Bool.and_eq_true] at hb
            obtain ⟨hb1, hb2, hb3⟩ := hb
            have hb1 := ble_le hb1
            have hb2 := beq_eq hb2
            have hb3 : 0 < n * sz := ble_le hb3
            obtain ⟨cs', h1, h2⟩ := hl.bind_inv
            have h2 := h2.ret_inv
            simp only [Prod.mk.injEq] at h2
            obtain ⟨rfl, rfl⟩ := h2
            obtain ⟨x, hx, hw⟩ := run_zero hz
            have hc := lay_spec hcs (hx ρ)
            have hxs : x.cells.size = sz := by rw [← Array.length_toList, hc.len, hb2]
            obtain ⟨xs', h3, h4⟩ := buildCells_spec htr parts.toList _ _ _ h1.opt_inv (repl_spec hc n)
            obtain ⟨ρ', h5, h6, h7⟩ := Tr.push hr h4 e
            refine ⟨ρ', _, _, _, ?_, .inl rfl, .sliceAt (a := ptrTo m.objs.length) (o := 0) h5 (Nat.le_refl _) rfl (by show (ρ'.k m.objs.length).2 + (0 + 0 * 0) = 0; rw [h7]), h6⟩
            simp only [execOp, ho]
            refine value_run ?_
            have hcells : (Array.range (n * sz)).map (fun i => x.cells[i % x.cells.size]!) = (List.replicate n x.cells.toList).flatten.toArray := by
              apply Array.ext'
              rw [Array.toList_map, Array.toList_range, range_cells x.cells sz hxs n]
            simp only [Instr.buildSlice, Sem.run_bind, run_underlying hu, Result.andThen_ok, run_sizeOf hsz]
            rw [if_neg (by omega)]
            try simp only [Sem.run_bind, Sem.run_pure, Result.andThen_ok]
            rw [if_neg (by omega)]
            simp only [Sem.run_bind, hw, Sem.run_pure, Result.andThen_ok, hcells, Array.toList_map, h3, run_newRow]
        · exact hl.fail_inv.elim
      · exact hl.fail_inv.elim
    · exact hl.fail_inv.elim
  · rename_i ty p y ho
    simp only [Option.some.injEq] at h; subst h
    have hx := ev_spec htr p
    split at hl
    · rename_i b hb
      rw [hb] at hx
      obtain ⟨m1, h1, h2⟩ := hl.bind_inv
      have h2 := h2.ret_inv
      simp only [Prod.mk.injEq] at h2
      obtain ⟨rfl, rfl⟩ := h2
      generalize hX : a.eval p = X at hx
      cases hx with
      | ptr b b' hb' =>
        obtain ⟨w', h3, h4⟩ := stV_spec hr h1 hb' (ev_spec htr y)
        refine ⟨ρ, w', _, undef, ?_, .inr ⟨rfl, rfl⟩, .unk _, h4⟩
        simp only [execOp, ho, hX, Sem.run_bind, Instr.storeAt, Instr.sureAddr, Sem.run_pure, Result.andThen_ok, h3]
    · exact hl.fail_inv.elim
  · rename_i p q ty ty2 ho
    simp only [Option.some.injEq] at h; subst h
    obtain ⟨ρ', w', z, h1, h2, h3⟩ := appendV_spec (ty := o.type) hr (ev_spec htr p) (ev_spec htr q) hl
    refine ⟨ρ', w', _, z, ?_, .inl rfl, h2, h3⟩
    simp only [execOp, ho, resolve, Sem.run_bind, Sem.run_pure, Result.andThen_ok, invoke, builtin]
    simp only [List.map_toArray, List.map_cons, List.map_nil]
    rw [h1]
    rfl
  · rename_i ty p q ho
    simp only [Option.some.injEq] at h; subst h
    obtain ⟨ρ', w', z, h1, h2, h3⟩ := makeV_spec hr (ev_spec htr p) (ev_spec htr q) hl
    refine ⟨ρ', w', _, z, ?_, .inl rfl, h2, h3⟩
    simp only [execOp, ho]
    exact (by simp only [Sem.run_bind, h1, Result.andThen_ok, Sem.run_pure])
  · cases h

end Go.X
