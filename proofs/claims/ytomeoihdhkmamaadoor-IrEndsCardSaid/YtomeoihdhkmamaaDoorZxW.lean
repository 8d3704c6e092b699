/- Regions that draw their order: all orders. -/
import Derived.Test.YtomeoihdhkmamaaDoorZxS
set_option linter.unusedVariables false
set_option linter.unusedSimpArgs false
namespace Go.X
open Go.RowKit (Below)

theorem planOf_spec {ops : Array Oper} {n : Nat} {anc : List (List Nat)} (h : planOf ops = some (n, anc)) (hf : ∀ {f m n : Nat}, findN ops f m = some n → headB ops n = true) : headB ops n = true ∧ anc = ancs ops.toList n := by
  unfold planOf at h
  split at h
  · rename_i k hk
    simp only [Option.some.injEq, Prod.mk.injEq] at h
    obtain ⟨rfl, rfl⟩ := h
    exact ⟨hf hk, rfl⟩
  · cases h

theorem findN_spec {ops : Array Oper} : ∀ {f m n : Nat}, findN ops f m = some n → headB ops n = true
  | 0, m, n, h => by cases h
  | f + 1, m, n, h => by
    unfold findN at h
    cases hb : headB ops m with
    | true => rw [hb] at h; simp only [cond_true, Option.some.injEq] at h; exact h ▸ hb
    | false => rw [hb] at h; exact findN_spec h

def cntF (p : Nat → Bool) : Nat → Nat
  | 0 => 0
  | n + 1 => cntF p n + (p n).toNat

theorem cntF_same {p q : Nat → Bool} : ∀ (n : Nat), (∀ i, i < n → p i = q i) → cntF p n = cntF q n
  | 0, _ => rfl
  | n + 1, h => by rw [cntF, cntF, cntF_same n fun i hi => h i (by omega), h n (by omega)]

theorem cntF_less {p q : Nat → Bool} {k : Nat} (hp : p k = true) (hq : q k = false) (h : ∀ i, i ≠ k → p i = q i) : ∀ (n : Nat), k < n → cntF p n = cntF q n + 1
  | 0, hk => by omega
  | n + 1, hk => by
    rw [cntF, cntF]
    by_cases e : k = n
    · subst e
      rw [cntF_same k fun i hi => h i (by omega), hp, hq]
      rfl
    · rw [cntF_less hp hq h n (by omega), h n (by omega)]
      omega

theorem cntF_pos {p : Nat → Bool} : ∀ (n : Nat), 0 < cntF p n → ∃ i, i < n ∧ p i = true
  | 0, h => by simp [cntF] at h
  | n + 1, h => by
    cases hp : p n with
    | true => exact ⟨n, by omega, hp⟩
    | false =>
      rw [cntF, hp] at h
      obtain ⟨i, h1, h2⟩ := cntF_pos n h
      exact ⟨i, by omega, h2⟩

theorem cntF_zero {p : Nat → Bool} : ∀ (n : Nat), cntF p n = 0 → ∀ i, i < n → p i = false
  | 0, _, i, hi => by omega
  | n + 1, h, i, hi => by
    rw [cntF] at h
    rcases Nat.lt_or_ge i n with h1 | h1
    · exact cntF_zero n (by omega) i h1
    · obtain rfl : i = n := by omega
      cases hp : p i with
      | false => rfl
      | true => rw [hp] at h; simp at h

section
variable {ops : Array Oper}

theorem mem_direct {k i : Nat} : i ∈ direct ops.toList k ↔ ∃ o, ops[k]? = some o ∧ ∃ e ∈ o.after, Region.binds .any e = true ∧ e.on = i := by
  unfold direct
  rw [objL_toList]
  have : ops.toList[k]? = ops[k]? := by simp
  rw [this]
  cases ops[k]? with
  | none => simp
  | some o =>
    simp only [List.mem_map, List.mem_filter, Option.some.injEq, exists_eq_left']
    constructor
    · rintro ⟨e, ⟨h1, h2⟩, h3⟩; exact ⟨e, Array.mem_toList_iff.1 h1, h2, h3⟩
    · rintro ⟨e, h1, h2, h3⟩; exact ⟨e, ⟨Array.mem_toList_iff.2 h1, h2⟩, h3⟩

theorem ancs_length (l : List Oper) : ∀ n, (ancs l n).length = n
  | 0 => rfl
  | n + 1 => by simp [ancs, ancs_length l n]

theorem nth_append {l : List (List Nat)} {x : List Nat} {k : Nat} : nth (l ++ [x]) k = if k < l.length then nth l k else if k = l.length then x else [] := by
  unfold nth
  rw [objL_toList, objL_toList]
  split
  · rename_i y hy
    rw [List.getElem?_append] at hy
    split at hy
    · rename_i hlt
      rw [if_pos hlt, hy]
    · rename_i hlt
      rw [if_neg hlt]
      have := (List.getElem?_eq_some_iff.1 hy).1
      simp only [List.length_singleton] at this
      have e : k = l.length := by omega
      subst e
      simp at hy
      simp [hy]
  · rename_i hy
    have := List.getElem?_eq_none_iff.1 hy
    simp only [List.length_append, List.length_singleton] at this
    rw [if_neg (by omega), if_neg (by omega)]

theorem nth_ancs (l : List Oper) : ∀ (m k : Nat), k < m → nth (ancs l m) k = (List.range k).filter fun i => (direct l k).any fun j => Nat.beq i j || (nth (ancs l k) j).any (Nat.beq i)
  | 0, k, h => by omega
  | m + 1, k, h => by
    have : ancs l (m + 1) = ancs l m ++ [(List.range m).filter fun i => (direct l m).any fun j => Nat.beq i j || (nth (ancs l m) j).any (Nat.beq i)] := rfl
    rw [this, nth_append, ancs_length]
    rcases Nat.lt_or_ge k m with h1 | h1
    · rw [if_pos h1]; exact nth_ancs l m k h1
    · obtain rfl : k = m := by omega
      rw [if_neg (Nat.lt_irrefl _), if_pos rfl]

theorem ancs_closed {n : Nat} {S : Nat → Prop} (hback : ∀ k, k < ops.size → ∀ i ∈ direct ops.toList k, i < k) (hn : n ≤ ops.size) (hcl : ∀ j, j < n → S j → ∀ i ∈ direct ops.toList j, S i) : ∀ (k : Nat), k < n → (∀ i ∈ direct ops.toList k, S i) →
    ∀ j, (nth (ancs ops.toList n) k).any (Nat.beq j) = true → S j := by
  intro k
  induction k using Nat.strongRecOn with
  | _ k ih =>
    intro hk hS j hj
    rw [nth_ancs _ _ _ hk] at hj
    have hj := any_beq.1 hj
    obtain ⟨_, h2⟩ := List.mem_filter.1 hj
    obtain ⟨i, hi, h3⟩ := List.any_eq_true.1 h2
    simp only [Bool.or_eq_true] at h3
    rcases h3 with h3 | h3
    · rw [Nat.eq_of_beq_eq_true h3]; exact hS i hi
    · have hik := hback k (by omega) i hi
      refine ih i hik (by omega) (hcl i (by omega) (hS i hi)) j ?_
      rw [nth_ancs _ _ _ (show i < n by omega)]
      rw [nth_ancs _ _ _ hik] at h3
      exact h3

theorem apartAt_spec {j k : Nat} {x y : Oper} (h : apartAt ops j k = true) (hj : ops[j]? = some x) (hk : ops[k]? = some y) : x.apart ops y = true := by
  unfold apartAt at h
  rw [objL_toList, objL_toList] at h
  have e1 : ops.toList[j]? = some x := by simpa using hj
  have e2 : ops.toList[k]? = some y := by simpa using hk
  rw [e1, e2] at h
  exact h

end

section
variable {P : Program} {E : Env} {call : FuncId → List V → Mem → T (V × Option Mem)} {ops : Array Oper} {n low0 : Nat} {base : List O} {NW : Nat → List O} {TM : Nat → List V} {ρ0 : Ren} {w0 : World} {a0 : Act}

theorem head_any (hE : EnvOk P E) (hc : CallOk P call) (h0 : Rel ρ0 ⟨base, low0⟩ w0) (hB : headB ops n = true)
    (hst : ∀ k o, k < n → ops[k]? = some o → StepOk P E call ops (base ++ cat (fun j => bif (nth (ancs ops.toList n) k).any (Nat.beq j) then NW j else deads (NW j)) k) o (TM k) (TM (k + 1)) (NW k))
    (hlen : ∀ k, k ≤ n → (TM k).length ≤ a0.tmps.size) {Q : Exit → Act → World → Prop}
    (hQ : ∀ a w ρ, J ops n base NW TM ρ0 w0 a0 (fun j => j < n) a w ρ → wpAny P .any ops Q (ops.size - n) (listedN ops.size n) a w) :
    ∀ (f : Nat) (listed : Array Bool) (a : Act) (w : World) (ρ : Ren), cntF (fun i => !listed.getD i true) n = f → HeadInv .any ops n listed →
      J ops n base NW TM ρ0 w0 a0 (fun j => listed.getD j false = true) a w ρ → wpAny P .any ops Q (f + (ops.size - n)) listed a w := by
  simp only [headB, Bool.and_eq_true] at hB
  obtain ⟨hsel, hn, htl, hbk, hpr, hseq⟩ := hB
  have hn := ble_le hn
  have hback : ∀ k, k < ops.size → ∀ i ∈ direct ops.toList k, i < k := fun k hk i hi => by
    have := List.all_eq_true.1 (List.all_eq_true.1 hbk k (List.mem_range.2 hk)) i hi
    exact ble_le this
  have hpair : ∀ k, k < n → ∀ j, j < k → j ∈ direct ops.toList k ∨ apartAt ops j k = true := fun k hk j hj => by
    have := List.all_eq_true.1 (List.all_eq_true.1 hpr k (List.mem_range.2 hk)) j (List.mem_range.2 hj)
    simp only [Bool.or_eq_true] at this
    exact this.imp any_beq.1 (fun q => q)
  intro f
  induction f with
  | zero =>
    intro listed a w ρ hcnt inv hJ
    have hall := cntF_zero n hcnt
    have hfull : ∀ j, j < n → listed.getD j false = true := fun j hj => by
      have h1 := hall j hj
      have hjs : j < listed.size := by rw [inv.size]; omega
      simp only [Bool.not_eq_false'] at h1
      simp [hjs] at h1 ⊢
      exact h1
    have hS : (fun j => listed.getD j false = true) = fun j => j < n := by
      funext j
      refine propext ⟨fun h => ?_, hfull j⟩
      rcases Nat.lt_or_ge j n with h1 | h1
      · exact h1
      · rcases Nat.lt_or_ge j ops.size with h2 | h2
        · have := getD_both (inv.tail j h1 h2)
          rw [h] at this; cases this
        · rw [Array.getD_eq_getD_getElem?, Array.getElem?_eq_none (by rw [inv.size]; exact h2)] at h
          cases h
    have hl : listed = listedN ops.size n := by
      apply Array.ext
      · rw [inv.size]; simp [listedN]; omega
      · intro i h1 h2
        have hlt : i < ops.size := by rw [← inv.size]; exact h1
        have e1 : listed.getD i false = listed[i] := by simp [h1]
        have e2 : (listedN ops.size n)[i] = decide (i < n) := by
          simp only [listedN, List.getElem_toArray]
          rw [List.getElem_append]
          split
          · rename_i hi
            simp only [List.length_replicate] at hi
            simp [hi]
          · rename_i hi
            simp only [List.length_replicate] at hi
            simp [hi]
        rw [← e1, e2]
        have := congrFun hS i
        by_cases h3 : i < n
        · rw [hfull i h3]; simp [h3]
        · cases hq : listed.getD i false with
          | false => simp [h3]
          | true => exact (h3 (this.mp hq)).elim
    rw [hS] at hJ
    rw [Nat.zero_add, hl]
    exact hQ a w ρ hJ
  | succ f ih =>
    intro listed a w ρ hcnt inv hJ
    obtain ⟨i0, hi0, hun0⟩ := cntF_pos n (by omega : 0 < cntF (fun i => !listed.getD i true) n)
    simp only [Bool.not_eq_true'] at hun0
    have hcl : ∀ j, listed.getD j false = true → ∀ i ∈ direct ops.toList j, listed.getD i false = true := fun j hj i hi => by
      obtain ⟨o, ho, e, he, hb, rfl⟩ := mem_direct.1 hi
      exact inv.closed j o ho hj e he hb
    have hne : Region.ready .any ops listed ≠ [] := by
      have : ∀ i, i < n → listed.getD i true = false → Region.ready .any ops listed ≠ [] := by
        intro i
        induction i using Nat.strongRecOn with
        | _ i ihi =>
          intro hi hun
          have his : i < ops.size := by omega
          by_cases hall : ∀ j ∈ direct ops.toList i, listed.getD j false = true
          · have : i ∈ Region.ready .any ops listed := mem_ready.2 ⟨hun, _, Array.getElem?_eq_getElem his, fun e he hb => hall _ (mem_direct.2 ⟨_, Array.getElem?_eq_getElem his, e, he, hb, rfl⟩)⟩
            exact fun q => by rw [q] at this; cases this
          · obtain ⟨j, hj⟩ := Classical.not_forall.1 hall
            obtain ⟨hj1, hj2⟩ := Classical.not_imp.1 hj
            have hji := hback i his j hj1
            refine ihi j hji (by omega) (getD_in (by rw [inv.size]; omega) ?_)
            cases hq : listed.getD j false with
            | false => rfl
            | true => exact (hj2 hq).elim
      exact this i0 hi0 hun0
    rw [show f + 1 + (ops.size - n) = (f + (ops.size - n)) + 1 by omega]
    refine ⟨fun q => (hne q).elim, fun k hk => ?_⟩
    obtain ⟨hunk, o, ho, hall⟩ := mem_ready.1 hk
    have hks : k < ops.size := (Array.getElem?_eq_some_iff.1 ho).1
    have hkn : k < n := by
      rcases Nat.lt_or_ge k n with h | h
      · exact h
      · simp only [Bool.or_eq_true, Bool.and_eq_true] at htl
        rcases htl with htl | ⟨hs, hch⟩
        · have := Nat.eq_of_beq_eq_true htl; omega
        · exact absurd hk (tail_waits hs hch (by omega) inv _ i0 rfl hi0 hun0 k h)
    have hkS : ¬ listed.getD k false = true := by rw [getD_both hunk]; simp
    have hdir : ∀ j ∈ direct ops.toList k, listed.getD j false = true := fun j hj => by
      obtain ⟨o', ho', e, he, hb, rfl⟩ := mem_direct.1 hj
      rw [ho] at ho'
      cases ho'
      exact hall e he hb
    refine J.step hE hc h0 hn (nth (ancs ops.toList n) k) hst hkn ho rfl hlen hJ hkS ?_ ?_ ?_ ?_
    · exact fun j _ hj => ancs_closed (S := fun j => listed.getD j false = true) hback hn (fun j _ h => hcl j h) k hkn hdir j hj
    · intro d hd j o' hj ho' hd'
      constructor
      · intro hS
        rcases Nat.lt_trichotomy j k with h | h | h
        · exact h
        · exact (hkS (h ▸ hS)).elim
        · rcases hpair j hj k h with h1 | h1
          · exact (hkS (hcl j hS k h1)).elim
          · exact ((Oper.apart_spec (apartAt_spec h1 ho ho')).2.2 d hd' hd).elim
      · intro hjk
        rcases hpair k hkn j hjk with h1 | h1
        · exact hdir j h1
        · exact ((Oper.apart_spec (apartAt_spec h1 ho' ho)).1 d hd' hd).elim
    · intro d hd j o' hkj hj ho' hd' hS
      rcases hpair j hj k hkj with h1 | h1
      · exact hkS (hcl j hS k h1)
      · exact (Oper.apart_spec (apartAt_spec h1 ho ho')).2.1 d hd hd'
    · intro a' w' ρ' hJ'
      refine ih (listed.setIfInBounds k true) a' w' ρ' ?_ (inv.set hk hkn) ?_
      · have := cntF_less (p := fun i => !listed.getD i true) (q := fun i => !(listed.setIfInBounds k true).getD i true) (k := k) (by simp only [hunk]; rfl) (by
          have : k < listed.size := by rw [inv.size]; exact hks
          simp [this]) (fun i hi => by simp only [getD_set_ne true (Ne.symm hi)]) n hkn
        omega
      · have : (fun j => (listed.setIfInBounds k true).getD j false = true) = fun j => listed.getD j false = true ∨ j = k := by
          funext j
          refine propext ?_
          by_cases h : j = k
          · subst h
            have : j < listed.size := by rw [inv.size]; exact hks
            simp [this]
          · rw [getD_set_ne false (Ne.symm h)]
            simp [h]
        rw [this]
        exact hJ'

theorem J.done {tm : List V} (h0 : Rel ρ0 ⟨base, low0⟩ w0) {a : Act} {w : World} {ρ : Ren} (hlen : (TM n).length ≤ a0.tmps.size) (hJ : J ops n base NW TM ρ0 w0 a0 (fun j => j < n) a w ρ) :
    Tr ρ0 ⟨base, low0⟩ w0 ρ ⟨base ++ cat NW n, low0⟩ w ∧ TR ρ (TM n) a.tmps := by
  have hdom0 : ∀ id j b, ρ0 id j = some b → id < base.length ∧ b < w0.heap.size := fun id j b h => h0.dom id j b h
  have cls : ∀ id o', objL (base ++ cat NW n) id = some o' → Pres n base NW (fun j => j < n) id o' := by
    intro id o' h
    rcases objL_app _ _ _ _ h with ⟨h1, h2⟩ | ⟨h1, h2⟩
    · exact .inl h2
    · obtain ⟨j, h3, h4, h5, h6⟩ := objL_cat (NW := NW) (fun _ => rfl) _ _ _ h2
      exact .inr ⟨j, h3, h3, by omega, by rw [show id - (base.length + off NW j) = id - base.length - off NW j by omega]; exact h6⟩
  have hl : (base ++ cat NW n).length = base.length + off NW n := by rw [List.length_append, cat_length (NW := NW) fun _ => rfl]
  refine ⟨⟨⟨fun id o' h => ?_, fun id j id' j' o1 o2 b hp hp' => hJ.inj id j id' j' o1 o2 b (cls _ _ hp) (cls _ _ hp'), fun id j b h => ?_⟩, ⟨hJ.sub, fun id j b h => ?_⟩, .of_below hJ.below, Nat.le_refl _, by simp only [hl]; omega⟩, by rw [hJ.tml]; exact hlen, fun d => ?_⟩
  · rcases cls id o' h with hp | ⟨j, h1, h2, h3, h4⟩
    · have hlt := objL_lt hp
      refine (h0.objs id o' hp).keep hJ.sub (fun j b e => ?_) (fun j b _ e => hJ.below.block b (hdom0 _ _ _ e).2)
      rcases (hJ.dom _ _ _ e).2 with h5 | ⟨_, k', _, _, h7, _⟩
      · exact h5
      · omega
    · have hlt := objL_lt h4
      have := hJ.seg j h1 h2 _ o' h4
      rw [show base.length + off NW j + (id - (base.length + off NW j)) = id by omega] at this
      exact this.keep (.of_upto ρ _) (fun j' b e => upto_some.2 ⟨by simp only [off]; omega, e⟩) (fun _ _ _ _ => rfl)
  · obtain ⟨h1, h2⟩ := hJ.dom id j b h
    refine ⟨?_, h1⟩
    simp only [hl]
    rcases h2 with h2 | ⟨_, k, h3, _, _, h5⟩
    · have := (hdom0 _ _ _ h2).1; omega
    · have := off_mono NW (show k + 1 ≤ n by omega); omega
  · rcases (hJ.dom id j b h).2 with h2 | ⟨h2, k, _, _, h4, _⟩
    · exact .inl h2
    · exact .inr ⟨by simp only; omega, .inl h2⟩
  · exact (hJ.tms d n (Nat.le_refl _) (fun j o h1 _ _ => ⟨fun _ => h1, fun _ => h1⟩)).mono (.of_upto ρ _)

/-- A region that draws its order. -/
theorem runDraw_ok (hE : EnvOk P E) (hc : CallOk P call) {id : Nat} {st st' : St} {ρ : Ren} {a : Act} {w : World} {Q : Exit → Act → World → Prop} {n : Nat} {anc : List (List Nat)} (hpl : headB ops n = true ∧ anc = ancs ops.toList n) (h : Leads (runDraw P E call n anc ops st) st')
    (hr : Rel ρ st.mem w) (htr : TR ρ st.tm a.tmps) (hQ : ∀ ρ' a' w', Tr ρ st.mem w ρ' st'.mem w' → TR ρ' st'.tm a'.tmps → Idles P a a' → Q .normal a' w') : (Code.region id ops true).wp P Q a w := by
  obtain ⟨tm, base, low0⟩ := st
  obtain ⟨hB, rfl⟩ := hpl
  unfold runDraw at h
  · have hB := hB
    obtain ⟨⟨tmE, segsE⟩, h1, h2⟩ := h.bind_inv
    obtain ⟨TM, NW, e1, e2, e3, e4⟩ := runHead_steps _ _ _ _ _ _ h1
    have hn : n ≤ ops.size := by
      simp only [headB, Bool.and_eq_true] at hB
      exact ble_le hB.2.1
    have hlt : (ops.toList.take n).length = n := by simp; omega
    rw [hlt] at e2 e3
    simp only [Nat.zero_add, List.nil_append] at e1 e2 e3 e4
    have hst : ∀ k o, k < n → ops[k]? = some o → StepOk P E call ops (base ++ cat (fun j => bif (nth (ancs ops.toList n) k).any (Nat.beq j) then NW j else deads (NW j)) k) o (TM k) (TM (k + 1)) (NW k) := fun k o hk ho => by
      have := e4 k o (by rw [List.getElem?_take, if_pos hk]; simpa using ho)
      rw [padL_cat] at this
      exact this
    have hstep : ∀ k, k < n → (TM (k + 1)).length = (TM k).length := fun k hk => by
      obtain ⟨tm1, hrf, hcs⟩ := hst k _ hk (Array.getElem?_eq_getElem (by omega))
      rcases hcs with ⟨v, _, _, e⟩ | ⟨_, _, e⟩ <;> rw [e, putL_length, hrf.1]
    have hlen' : ∀ k, k ≤ n → (TM k).length = tm.length := by
      intro k
      induction k with
      | zero => intro _; rw [e1]
      | succ k ih => intro hk; rw [hstep k (by omega)]; exact ih (by omega)
    have hlen : ∀ k, k ≤ n → (TM k).length ≤ a.tmps.size := fun k hk => by rw [hlen' k hk]; exact htr.len
    have hw1 : Below w.heap.size w { w with drawn := w.drawn + 1 } := ⟨rfl, rfl, rfl, Nat.le_refl _, fun _ _ => rfl⟩
    have hr1 : Rel ρ ⟨base, low0⟩ { w with drawn := w.drawn + 1 } := hr.below hw1
    refine wp_region_any hE.mixed ?_
    have hwas : ∀ j, (Array.replicate ops.size false).getD j false = false := fun j => getD_replicate_false _ _
    have hcnt : cntF (fun i => !(Array.replicate ops.size false).getD i true) n = n := by
      have : ∀ m, m ≤ n → cntF (fun i => !(Array.replicate ops.size false).getD i true) m = m := by
        intro m
        induction m with
        | zero => intro _; rfl
        | succ m ih =>
          intro hm
          rw [cntF, ih (by omega)]
          have : m < ops.size := by omega
          simp [this]
      exact this n (Nat.le_refl _)
    have hdom0 : ∀ id j b, ρ id j = some b → id < base.length ∧ b < w.heap.size := fun id j b h => hr.dom id j b h
    have key := head_any (n := n) (a0 := a) (TM := TM) (NW := NW) (Q := Q) hE hc hr1 hB hst hlen (fun a2 w2 ρ2 hJ => ?_) n (Array.replicate ops.size false) a { w with drawn := w.drawn + 1 } ρ hcnt
      ⟨by simp, fun j oj _ hl => (by rw [getD_replicate_false] at hl; cases hl), fun t _ ht => getD_in (by simpa using ht) (getD_replicate_false _ _)⟩
      ⟨fun j _ hj => (by simp only [hwas] at hj; cases hj), fun i j b hb => ⟨(hdom0 i j b hb).2, .inl hb⟩, .refl ρ, fun i j i' j' o1 o2 b hp hp' hj hj' hne hwr hb hb' => ?_, .refl _ _, fun d k hk hS => ?_, rfl, rfl⟩
    · rw [show n + (ops.size - n) = ops.size by omega] at key
      exact key
    · obtain ⟨t1, htr1⟩ := J.done (tm := tm) hr1 (hlen n (Nat.le_refl _)) hJ
      rw [e2] at htr1
      have hdl : (ops.toList.drop n).length = ops.size - n := by simp
      have hseq : Region.seqB .any ops (ops.size - n) n (listedN ops.size n) = true := by
        simp only [headB, Bool.and_eq_true] at hB
        exact hB.2.2.2.2.2
      have hflat : segsE.flatten = cat NW n := by rw [e3]; exact flat_cat NW n
      simp only [hflat] at h2
      have hlist : wpList P ops Q (ops.toList.drop n) a2 w2 :=
        runOps_ok hE hc (ops.toList.drop n) _ st' ρ2 a2 w2 h2 t1.rel htr1 fun ρ3 a3 w3 t3 htr3 hd3 => hQ ρ3 a3 w3 ((Tr.below hr hw1).trans (t1.trans t3)) htr3 ((Idles.of_eq hJ.dfr).trans hd3)
      have := wpAny_of_seq (P := P) (md := .any) (Q' := Q) (ops.toList.drop n) n (listedN ops.size n) a2 w2 (fun j => by simp [List.getElem?_drop]) (by rw [hdl]; exact hseq) hlist
      rwa [hdl] at this
    · have hcl : ∀ i o, Pres n base NW (fun j => (Array.replicate ops.size false).getD j false = true) i o → objL base i = some o := fun i o hp => by
        rcases hp with hp | ⟨k, _, hk, _⟩
        · exact hp
        · simp only [hwas] at hk; cases hk
      exact hr.inj i j i' j' o1 o2 b (hcl _ _ hp) (hcl _ _ hp') hj hj' hne hwr hb hb'
    · have h1 : R (upto ρ (base.length + off NW k)) (getL (TM 0) d) (a.tmps.getD d undef) := by
        rw [e1]
        refine (htr.at_ d).mono fun i j b hb => ⟨upto_some.2 ⟨?_, hb⟩, rfl⟩
        have := (hdom0 i j b hb).1
        omega
      have := later hst hn (d := d) k 0 (by omega) (fun j o _ hj ho hd => by
        have := (hS j o (by omega) ho hd).2 (by omega)
        simp only [hwas] at this
        cases this) _ _ h1
      rw [Nat.zero_add] at this
      exact this
end

end Go.X
