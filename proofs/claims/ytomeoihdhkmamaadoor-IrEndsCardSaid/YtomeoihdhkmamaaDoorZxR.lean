/- Regions that draw their order: whatever order comes, it ends as the evaluator says. -/
import Derived.Test.YtomeoihdhkmamaaDoorZxJ
set_option linter.unusedVariables false
set_option linter.unusedSimpArgs false
namespace Go.X
open Go.RowKit (Below)

def upto (ρ : Ren) (n : Nat) : Ren := ⟨fun id j => if id < n then ρ.b id j else none, ρ.k⟩

theorem upto_some {ρ : Ren} {n id j b : Nat} : (upto ρ n) id j = some b ↔ id < n ∧ ρ id j = some b := by
  show (if id < n then ρ.b id j else none) = some b ↔ _
  split <;> simp [*]

theorem Sub.upto {ρ ρ' : Ren} {n n' : Nat} (h : Sub ρ ρ') (hn : n ≤ n') : Sub (upto ρ n) (upto ρ' n') := fun id j b e => by
  obtain ⟨h1, h2⟩ := upto_some.1 e
  obtain ⟨h3, h4⟩ := h id j b h2
  exact ⟨upto_some.2 ⟨by omega, h3⟩, h4⟩

theorem Sub.of_upto (ρ : Ren) (n : Nat) : Sub (X.upto ρ n) ρ := fun id j b e => ⟨(upto_some.1 e).2, rfl⟩

/-! ### Lists -/

def off (NW : Nat → List O) : Nat → Nat
  | 0 => 0
  | k + 1 => off NW k + (NW k).length

def cat (f : Nat → List O) : Nat → List O
  | 0 => []
  | k + 1 => cat f k ++ f k

theorem off_mono (NW : Nat → List O) : ∀ {j k : Nat}, j ≤ k → off NW j ≤ off NW k
  | j, 0, h => by obtain rfl : j = 0 := by omega
                  exact Nat.le_refl _
  | j, k + 1, h => by
    rcases Nat.lt_or_ge j (k + 1) with h' | h'
    · exact Nat.le_trans (off_mono NW (by omega : j ≤ k)) (Nat.le_add_right _ _)
    · obtain rfl : j = k + 1 := by omega
      exact Nat.le_refl _

theorem objL_app {α : Type} : ∀ (l r : List α) (i : Nat) (o : α), objL (l ++ r) i = some o → (i < l.length ∧ objL l i = some o) ∨ (l.length ≤ i ∧ objL r (i - l.length) = some o)
  | [], r, i, o, h => .inr ⟨Nat.zero_le _, h⟩
  | x :: l, r, 0, o, h => .inl ⟨Nat.succ_pos _, h⟩
  | x :: l, r, i + 1, o, h => by
    rcases objL_app l r i o h with ⟨h1, h2⟩ | ⟨h1, h2⟩
    · exact .inl ⟨by simpa using h1, h2⟩
    · exact .inr ⟨by simpa using h1, by simpa using h2⟩

theorem cat_length {f NW : Nat → List O} (hf : ∀ j, (f j).length = (NW j).length) : ∀ k, (cat f k).length = off NW k
  | 0 => rfl
  | k + 1 => by simp only [cat, off, List.length_append, cat_length hf k, hf]

theorem objL_cat {f NW : Nat → List O} (hf : ∀ j, (f j).length = (NW j).length) : ∀ (k i : Nat) (o : O), objL (cat f k) i = some o → ∃ j, j < k ∧ off NW j ≤ i ∧ i < off NW (j + 1) ∧ objL (f j) (i - off NW j) = some o
  | 0, i, o, h => by cases i <;> cases h
  | k + 1, i, o, h => by
    rcases objL_app _ _ _ _ h with ⟨h1, h2⟩ | ⟨h1, h2⟩
    · obtain ⟨j, h3, h4, h5, h6⟩ := objL_cat hf k i o h2
      exact ⟨j, by omega, h4, h5, h6⟩
    · rw [cat_length hf] at h1 h2
      have := objL_lt h2
      rw [hf] at this
      exact ⟨k, by omega, h1, by simp only [off]; omega, h2⟩

theorem deads_length : ∀ l : List O, (deads l).length = l.length
  | [] => rfl
  | x :: l => by
    show (O.dead :: deads l).length = _
    simp [deads_length l]

theorem deads_get : ∀ (l : List O) (i : Nat) (o : O), objL (deads l) i = some o → o = .dead
  | [], i, o, h => by cases i <;> cases h
  | _ :: l, 0, o, h => by cases h; rfl
  | _ :: l, i + 1, o, h => deads_get l i o h

theorem padL_snoc (anc : List Nat) (s : List O) : ∀ (l : List (List O)) (j : Nat), padL anc j (l ++ [s]) = padL anc j l ++ (bif anc.any (Nat.beq (j + l.length)) then s else deads s)
  | [], j => by simp [padL_nil, padL_cons]
  | x :: l, j => by
    simp only [List.cons_append, padL_cons, padL_snoc anc s l (j + 1), List.length_cons, List.append_assoc]
    rw [show j + 1 + l.length = j + (l.length + 1) by omega]

theorem padL_cat (anc : List Nat) (NW : Nat → List O) : ∀ m, padL anc 0 ((List.range m).map NW) = cat (fun j => bif anc.any (Nat.beq j) then NW j else deads (NW j)) m
  | 0 => rfl
  | m + 1 => by
    rw [List.range_succ, List.map_append, List.map_cons, List.map_nil, padL_snoc, padL_cat anc NW m]
    simp [cat]

theorem flat_cat (NW : Nat → List O) : ∀ m, ((List.range m).map NW).flatten = cat NW m
  | 0 => rfl
  | m + 1 => by
    rw [List.range_succ, List.map_append, List.flatten_append, flat_cat NW m]
    simp [cat]

/-! ### Masks -/

theorem getL_maskL (l : List Nat) : ∀ (tm : List V) (i k : Nat), getL (maskL l i tm) k = if l.any (Nat.beq (i + k)) = true then getL tm k else .unk
  | [], i, k => by cases h : l.any (Nat.beq (i + k)) <;> simp [maskL_nil, getL_nil, getL_zero, getL_succ]
  | v :: tm, i, 0 => by
    simp only [maskL_cons, inL_any, getL_nil, getL_zero, getL_succ, Nat.add_zero]
    cases l.any (Nat.beq i) <;> rfl
  | v :: tm, i, k + 1 => by
    simp only [maskL_cons, inL_any, getL_nil, getL_zero, getL_succ, getL_maskL l tm (i + 1) k]
    rw [show i + 1 + k = i + (k + 1) by omega]

theorem maskL_length (l : List Nat) : ∀ (tm : List V) (i : Nat), (maskL l i tm).length = tm.length
  | [], i => rfl
  | v :: tm, i => by simp [maskL_cons, maskL_length l tm]

theorem any_beq {l : List Nat} {k : Nat} : l.any (Nat.beq k) = true ↔ k ∈ l := by
  rw [List.any_eq_true]
  constructor
  · rintro ⟨x, h1, h2⟩
    rw [Nat.eq_of_beq_eq_true h2]; exact h1
  · exact fun h => ⟨k, h, Nat.beq_refl k⟩

/-- At least as much is known. -/
def Refs (tm tm' : List V) : Prop := tm'.length = tm.length ∧ ∀ σ i x, R σ (getL tm i) x → R σ (getL tm' i) x

theorem Refs.refl (tm : List V) : Refs tm tm := ⟨rfl, fun _ _ _ h => h⟩

theorem Refs.lit {tm : List V} {d : Nat} {b : Bool} (h : getL tm d = .sbool b) : Refs tm (setL tm d (.bool b)) := by
  refine ⟨setL_length _ _ _, fun σ i x hx => ?_⟩
  rw [getL_setL]
  split
  · rename_i hi
    rw [← hi.1, h] at hx
    cases hx
    exact .bool b
  · exact hx

theorem guardV_refs {ops : Array Oper} {tm tm' : List V} {j : Nat} {want r : Bool} (h : Leads (guardV ops.toList tm j want) (r, tm')) (look : List Nat) (hl : ∀ d o, objL ops.toList j = some o → o.dst = some d → d ∈ look) :
    Refs tm tm' ∧ ∃ tm'', Leads (guardV ops.toList (maskL look 0 tm) j want) (r, tm'') := by
  unfold guardV at h ⊢
  split at h
  · rename_i o hj
    split at h
    · rename_i d hd
      have hm : getL (maskL look 0 tm) d = getL tm d := by
        rw [getL_maskL, Nat.zero_add, if_pos (any_beq.2 (hl d o hj hd))]
      rw [hm]
      split at h
      · rename_i b hb
        have h := h.ret_inv
        simp only [Prod.mk.injEq] at h
        obtain ⟨rfl, rfl⟩ := h
        exact ⟨.refl _, _, .ret _⟩
      · rename_i b hb
        rcases h.ite_inv with ⟨hc, h⟩ | ⟨hc, h⟩
        · have h := h.ret_inv
          simp only [Prod.mk.injEq] at h
          obtain ⟨rfl, rfl⟩ := h
          subst hc
          exact ⟨.lit hb, _, .yes rfl (.ret _)⟩
        · have h := h.ret_inv
          simp only [Prod.mk.injEq] at h
          obtain ⟨rfl, rfl⟩ := h
          subst hc
          exact ⟨.lit hb, _, .no rfl (.ret _)⟩
      · rename_i hb
        have h := h.ret_inv
        simp only [Prod.mk.injEq] at h
        obtain ⟨rfl, rfl⟩ := h
        exact ⟨.refl _, _, .ret _⟩
      · exact h.fail_inv.elim
    · exact h.fail_inv.elim
  · exact h.fail_inv.elim

section
variable {P : Program} {E : Env} {call : FuncId → List V → Mem → T (V × Option Mem)} {ops : Array Oper}

/-! ### The head, step by step -/

def StepOk (P : Program) (E : Env) (call : FuncId → List V → Mem → T (V × Option Mem)) (ops : Array Oper) (pad : List O) (o : Oper) (tm tm' : List V) (new : List O) : Prop :=
  ∃ tm1, Refs tm tm1 ∧
    ((∃ v, (∀ σ tmps, TR σ (maskL (o.looksAt ops) 0 tm) tmps → Region.wanted o (yielded ops tmps) = true) ∧ Leads (stepH P E call ops o tm1 pad) (v, new) ∧ tm' = putL tm1 o.dst v) ∨
    ((∀ σ tmps, TR σ (maskL (o.looksAt ops) 0 tm) tmps → Region.wanted o (yielded ops tmps) = false) ∧ new = [] ∧ tm' = putL tm1 o.dst (.tuple [])))

theorem runHead_steps {anc : List (List Nat)} {base : List O} : ∀ (l : List Oper) (k : Nat) (tm : List V) (segs : List (List O)) (tmE : List V) (segsE : List (List O)), Leads (runHead P E call ops anc base k l tm segs) (tmE, segsE) →
    ∃ (TM : Nat → List V) (NW : Nat → List O), TM k = tm ∧ TM (k + l.length) = tmE ∧ segsE = segs ++ (List.range l.length).map (fun i => NW (k + i)) ∧
      ∀ i o, l[i]? = some o → StepOk P E call ops (base ++ padL (nth anc (k + i)) 0 (segs ++ (List.range i).map fun j => NW (k + j))) o (TM (k + i)) (TM (k + i + 1)) (NW (k + i))
  | [], k, tm, segs, tmE, segsE, h => by
    have h := h.ret_inv
    simp only [Prod.mk.injEq] at h
    obtain ⟨rfl, rfl⟩ := h
    exact ⟨fun _ => tmE, fun _ => [], rfl, rfl, by simp, fun i o hi => by simp at hi⟩
  | o :: rest, k, tm, segs, tmE, segsE, h => by
    have fin : ∀ (tm' : List V) (new : List O), StepOk P E call ops (base ++ padL (nth anc k) 0 segs) o tm tm' new → Leads (runHead P E call ops anc base (k + 1) rest tm' (segs ++ [new])) (tmE, segsE) →
        ∃ (TM : Nat → List V) (NW : Nat → List O), TM k = tm ∧ TM (k + (o :: rest).length) = tmE ∧ segsE = segs ++ (List.range (o :: rest).length).map (fun i => NW (k + i)) ∧
          ∀ i o', (o :: rest)[i]? = some o' → StepOk P E call ops (base ++ padL (nth anc (k + i)) 0 (segs ++ (List.range i).map fun j => NW (k + j))) o' (TM (k + i)) (TM (k + i + 1)) (NW (k + i)) := by
      intro tm' new hs h1
      obtain ⟨TM, NW, e1, e2, e3, e4⟩ := runHead_steps rest (k + 1) tm' (segs ++ [new]) tmE segsE h1
      have hmap : ∀ m, (List.range (m + 1)).map (fun i => if k + i = k then new else NW (k + i)) = new :: (List.range m).map fun i => NW (k + 1 + i) := by
        intro m
        rw [List.range_succ_eq_map, List.map_cons, List.map_map]
        congr 1
        · simp
        · refine List.map_congr_left fun i _ => ?_
          simp only [Function.comp, Nat.succ_eq_add_one]
          rw [if_neg (by omega), show k + (i + 1) = k + 1 + i by omega]
      refine ⟨fun i => if i = k then tm else TM i, fun i => if i = k then new else NW i, if_pos rfl, ?_, ?_, fun i o' hi => ?_⟩
      · show (if k + (o :: rest).length = k then tm else TM (k + (o :: rest).length)) = tmE
        rw [if_neg (by simp only [List.length_cons]; omega), ← e2]
        congr 1
        simp only [List.length_cons]; omega
      · rw [e3, List.length_cons]
        simp only [hmap]
        simp
      · cases i with
        | zero =>
          simp only [List.getElem?_cons_zero, Option.some.injEq] at hi
          subst hi
          simp only [Nat.add_zero, if_true, List.range_zero, List.map_nil, List.append_nil]
          rw [if_neg (show ¬ (k + 1 = k) by omega)]
          rw [e1]
          exact hs
        | succ i =>
          simp only [List.getElem?_cons_succ] at hi
          have := e4 i o' hi
          simp only [hmap]
          rw [if_neg (show ¬ (k + (i + 1) = k) by omega), if_neg (show ¬ (k + (i + 1) + 1 = k) by omega), if_neg (show ¬ (k + (i + 1) = k) by omega)]
          rw [List.append_assoc, List.singleton_append] at this
          rw [show k + (i + 1) = k + 1 + i by omega]
          exact this
    rw [runHead_cons] at h
    unfold runHead1 at h
    split at h
    · rename_i hg
      obtain ⟨⟨v, new⟩, h1, h2⟩ := h.bind_inv
      exact fin _ new ⟨tm, .refl _, .inl ⟨v, fun σ tmps _ => by simp [Region.wanted, hg], h1, rfl⟩⟩ h2
    · rename_i j want hg
      obtain ⟨⟨r, tm1⟩, h1, h2⟩ := h.bind_inv
      obtain ⟨hrf, tm'', hq⟩ := guardV_refs h1 (o.looksAt ops) (fun d o' ho' hd => by
        unfold Oper.looksAt
        refine List.mem_append_right _ ?_
        rw [objL_toList] at ho'
        have ho' : ops[j]? = some o' := by simpa using ho'
        simp [hg, ho', hd])
      have hwant : ∀ σ tmps, TR σ (maskL (o.looksAt ops) 0 tm) tmps → Region.wanted o (yielded ops tmps) = r := fun σ tmps ht => by
        simp only [Region.wanted, hg]
        exact (guardV_spec hq ht).1
      cases r with
      | true =>
        simp only [cond_true] at h2
        obtain ⟨⟨v, new⟩, h3, h4⟩ := h2.bind_inv
        exact fin _ new ⟨tm1, hrf, .inl ⟨v, hwant, h3, rfl⟩⟩ h4
      | false =>
        simp only [cond_false] at h2
        exact fin _ [] ⟨tm1, hrf, .inr ⟨hwant, rfl, rfl⟩⟩ h2
end

end Go.X
