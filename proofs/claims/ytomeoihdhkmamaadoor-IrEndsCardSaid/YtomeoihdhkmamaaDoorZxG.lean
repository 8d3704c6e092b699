/- Operations that leave memory alone: all of them. -/
import Derived.Test.YtomeoihdhkmamaaDoorZxF
import Derived.Laws.Build
set_option linter.unusedVariables false
set_option linter.unusedSimpArgs false
namespace Go.X
open Go.RowKit (Below)

theorem run_mapM_list {α β : Type} {P : Program} {w : World} {f : α → Sem β} {g : α → β} : ∀ (l : List α), (∀ x ∈ l, (f x).run P w = .ok (g x) w) → (l.mapM f).run P w = .ok (l.map g) w
  | [], h => by simp
  | x :: l, h => by
    simp only [List.mapM_cons, Sem.run_bind, h x (by simp), Result.andThen_ok, run_mapM_list l (fun y hy => h y (by simp [hy])), Sem.run_pure, List.map_cons]

theorem run_mapM_array {α β : Type} {P : Program} {w : World} {f : α → Sem β} {g : α → β} (a : Array α) (h : ∀ x ∈ a.toList, (f x).run P w = .ok (g x) w) : (a.mapM f).run P w = .ok (a.toList.map g).toArray w := by
  rw [Array.mapM_eq_mapM_toList]
  simp only [Sem.run_map, run_mapM_list a.toList h, Result.andThen_ok]

theorem lay_spec {ρ : Ren} {v : V} {x : Value} {new : List V} (h : v.lay = some new) (hr : R ρ v x) : C ρ new x.cells.toList := by
  unfold V.lay at h
  split at h
  · simp only [Option.some.injEq] at h
    subst h
    cases hr with
    | agg cs xs hc => simpa [Value.cells] using hc
  · rename_i hna
    obtain ⟨h1, h2⟩ := bif_some h
    subst h2
    have hone : x.oneCell' = true := by cases hr <;> first | rfl | cases h1
    have hc : x.cells = #[x] := by cases x <;> first | rfl | cases hone
    rw [hc]
    exact .one _ _ _ _ hr hone .nil

theorem foldl_set (o : Nat) : ∀ (ns ms ys zs : List Value) (k : Nat), ms.length = ns.length → ys.length = o + k →
    (ns.zipIdx k).foldl (fun (cs : Array Value) p => cs.setIfInBounds (o + p.2) p.1) (ys ++ (ms ++ zs)).toArray = (ys ++ (ns ++ zs)).toArray
  | [], ms, ys, zs, k, h, hy => by
    have : ms = [] := List.length_eq_zero_iff.1 h
    subst this
    rfl
  | n :: ns, [], ys, zs, k, h, hy => by simp at h
  | n :: ns, m :: ms, ys, zs, k, h, hy => by
    simp only [List.zipIdx_cons, List.foldl_cons]
    have e : ((ys ++ (m :: ms ++ zs)).toArray).setIfInBounds (o + k) n = ((ys ++ [n]) ++ (ms ++ zs)).toArray := by
      rw [List.setIfInBounds_toArray, ← hy]
      simp
    rw [e, foldl_set o ns ms (ys ++ [n]) zs (k + 1) (by simpa using h) (by simp; omega)]
    simp

theorem fill_step {place : Nat → Option (Nat × Nat)} {i o sz : Nat} {x : Value} {ys ms zs : List Value} {rest : List (Nat × Value)} (hp : place i = some (o, sz)) (hx : x.cells.size = sz) (hy : ys.length = o) (hm : ms.length = sz) :
    Instr.fill place (ys ++ (ms ++ zs)).toArray ((i, x) :: rest) = Instr.fill place (ys ++ (x.cells.toList ++ zs)).toArray rest := by
  rw [Instr.fill, hp]
  have h1 : ¬ ((x.cells.size ≠ sz || o + x.cells.size > (ys ++ (ms ++ zs)).toArray.size) = true) := by
    simp only [bne_iff_ne, Bool.or_eq_true, decide_eq_true_eq, not_or, List.size_toArray, List.length_append]
    exact ⟨by simp [hx], by omega⟩
  simp only
  rw [if_neg h1]
  congr 1
  rw [← Array.foldl_toList, Array.toList_zipIdx]
  exact foldl_set o x.cells.toList ms ys zs 0 (by simp [hx, hm]) (by omega)

theorem buildCells_spec {P : Program} {ρ : Ren} {tm : List V} {a : Act} {place : Nat → Option (Nat × Nat)} (h : TR ρ tm a.tmps) : ∀ (l : List (Nat × Operand)) (cs cs' : List V) (xs : List Value), buildCells P place cs (evP tm l) = some cs' → C ρ cs xs →
    ∃ xs', Instr.fill place xs.toArray (l.map fun (i, x) => (i, a.eval x)) = some xs'.toArray ∧ C ρ cs' xs'
  | [], cs, cs', xs, hb, hc => by
    simp only [evP, buildCells, Option.some.injEq] at hb
    subst hb
    exact ⟨xs, rfl, hc⟩
  | (i, x) :: l, cs, cs', xs, hb, hc => by
    simp only [evP, buildCells] at hb
    split at hb
    · rename_i o sz new hp hl
      cases hz : Nat.beq (wds new) sz with
      | false => rw [hz] at hb; cases hb
      | true =>
        rw [hz] at hb
        simp only [cond_true] at hb
        split at hb
        · rename_i cs1 h1
          have hx := lay_spec hl (ev_spec h x)
          have hlen : (a.eval x).cells.size = sz := by rw [← Array.length_toList, hx.len]; exact beq_eq hz
          obtain ⟨ys, ms, zs, rfl, e1, e2, e3⟩ := stC_spec h1 hc hx (by simpa using hlen)
          obtain ⟨xs', h3, h4⟩ := buildCells_spec h l cs1 cs' _ hb e3
          refine ⟨xs', ?_, h4⟩
          rw [List.map_cons, fill_step hp hlen e1 e2]
          exact h3
        · cases hb
    · cases hb

theorem run_zero {P : Program} {t : TypeId} {z : V} (h : zeroT P t = some z) : ∃ x, (∀ ρ, R ρ z x) ∧ ∀ w, (zeroValue t).run P w = .ok x w := by
  unfold zeroT at h
  split at h
  · rename_i i hi
    obtain ⟨x, hx, rfl⟩ := Option.map_eq_some_iff.1 h
    exact ⟨x, fun ρ => ofVal_spec ρ x, fun w => by simp [zeroValue, typeInfo, program, hi, hx, Sem.run, Result.andThen]⟩
  · cases h

theorem buildV_spec {P : Program} {ρ : Ren} {tm : List V} {a : Act} {t : TypeId} {parts : Array (Nat × Operand)} {v : V} (htr : TR ρ tm a.tmps) (h : Leads (buildV P t (evP tm parts.toList)) v) :
    ∃ z, R ρ v z ∧ ∀ w, (Instr.build t (parts.map fun (i, x) => (i, a.eval x))).run P w = .ok z w := by
  unfold buildV at h
  split at h
  · rename_i z hz
    obtain ⟨x, hx, hw⟩ := run_zero hz
    have hx := hx ρ
    cases hx with
    | agg cs xs hc =>
      split at h
      · rename_i fs hu
        cases hall : fs.toList.all (fun f => (sizeT P f.type).isSome) with
        | false => rw [hall] at h; exact h.fail_inv.elim
        | true =>
          rw [hall] at h
          simp only [cond_true] at h
          obtain ⟨cs', h1, h2⟩ := h.bind_inv
          rw [h2.ret_inv]
          have hpl : ∀ w, (fs.mapM fun f => do pure (f.offset, ← sizeOf f.type) : Sem (Array (Nat × Nat))).run P w = .ok (fs.toList.map fun f => (f.offset, (sizeT P f.type).getD 0)).toArray w := by
            intro w
            refine run_mapM_array fs fun f hf => ?_
            have := List.all_eq_true.1 hall f hf
            obtain ⟨sz, hsz⟩ := Option.isSome_iff_exists.1 this
            simp only [Sem.run_bind, run_sizeOf hsz, Result.andThen_ok, Sem.run_pure, hsz, Option.getD_some]
          have hp : placeF P fs.toList = (((fs.toList.map fun f => (f.offset, (sizeT P f.type).getD 0)).toArray)[·]?) := by
            funext i
            unfold placeF
            rw [objL_toList, List.getElem?_toArray, List.getElem?_map]
            cases fs.toList[i]? <;> rfl
          have h1 := h1.opt_inv
          rw [hp] at h1
          obtain ⟨xs', h3, h4⟩ := buildCells_spec htr parts.toList _ _ _ h1 hc
          refine ⟨_, .agg _ _ h4, fun w => ?_⟩
          simp only [Instr.build, Sem.run_bind, hw, Result.andThen_ok, run_underlying hu, hpl, Value.cells, Array.toList_map]
          rw [h3]
          rfl
      · rename_i n e hu
        split at h
        · rename_i sz hsz
          obtain ⟨cs', h1, h2⟩ := h.bind_inv
          rw [h2.ret_inv]
          obtain ⟨xs', h3, h4⟩ := buildCells_spec htr parts.toList _ _ _ h1.opt_inv hc
          refine ⟨_, .agg _ _ h4, fun w => ?_⟩
          simp only [Instr.build, Sem.run_bind, hw, Result.andThen_ok, run_underlying hu, run_sizeOf hsz, Value.cells, Array.toList_map]
          rw [h3]
          rfl
        · exact h.fail_inv.elim
      · exact h.fail_inv.elim
  · exact h.fail_inv.elim

theorem bnd_spec {P : Program} {ρ : Ren} {d : Nat} {o : Option V} {O : Option Value} {i : Int} {sy : Bool} (h : bnd d o = some (i, sy)) (hr : (o = none ∧ O = none) ∨ ∃ v x, o = some v ∧ O = some x ∧ R ρ v x) :
    (O = none ∧ i = d) ∨ ∃ k, O = some (.int k i) := by
  rcases hr with ⟨rfl, rfl⟩ | ⟨v, x, rfl, rfl, hr⟩
  · simp only [bnd, Option.some.injEq, Prod.mk.injEq] at h
    exact .inl ⟨rfl, h.1.symm⟩
  · simp only [bnd] at h
    split at h
    · rename_i k j s h1
      simp only [Option.some.injEq, Prod.mk.injEq] at h
      obtain ⟨rfl, rfl⟩ := h
      exact .inr ⟨k, by rw [isInt_spec h1 hr]⟩
    · cases h

theorem run_sliceBound {P : Program} {k : IntKind} {i : Int} {y : Nat} {c : BoundsCode} {w : World} (h : 0 ≤ i ∧ i ≤ (y : Int)) : (Instr.sliceBound (.int k i) y c).run P w = .ok i.toNat w := by
  simp only [Instr.sliceBound, asIntOf, Sem.run_bind, Sem.run_pure, Result.andThen_ok]
  rw [if_pos h]
  rfl

/-- The bounds of a slice expression. -/
theorem run_sliceBounds {P : Program} {b : Bool} {n c : Nat} {L H : Option Value} {l h : Int} {w : World} (hL : (L = none ∧ l = (0 : Nat)) ∨ ∃ k, L = some (.int k l)) (hH : (H = none ∧ h = n) ∨ ∃ k, H = some (.int k h))
    (h0 : 0 ≤ l ∧ l ≤ h ∧ h ≤ n) (hc : n ≤ c) : (Instr.sliceBounds b n c L H none).run P w = .ok (l.toNat, h.toNat, c) w := by
  have e : ∀ (cd : BoundsCode) k, (Instr.sliceBound (.int k h) c cd).run P w = .ok h.toNat w := fun cd k => run_sliceBound ⟨by omega, by omega⟩
  have e2 : ∀ (cd : BoundsCode) k, (Instr.sliceBound (.int k l) h.toNat cd).run P w = .ok l.toNat w := fun cd k => run_sliceBound ⟨by omega, by omega⟩
  rcases hL with ⟨rfl, hl⟩ | ⟨k, rfl⟩
  · rcases hH with ⟨rfl, hh⟩ | ⟨k', rfl⟩
    · simp only [Instr.sliceBounds, Sem.run_bind, Sem.run_pure, Result.andThen_ok]
      rw [hl, hh]
      simp
    · simp only [Instr.sliceBounds, Sem.run_bind, Sem.run_pure, Result.andThen_ok, e]
      rw [hl]
      simp
  · rcases hH with ⟨rfl, hh⟩ | ⟨k', rfl⟩
    · simp only [Instr.sliceBounds, Sem.run_bind, Sem.run_pure, Result.andThen_ok]
      have e3 : ∀ (cd : BoundsCode), (Instr.sliceBound (.int k l) n cd).run P w = .ok l.toNat w := fun cd => run_sliceBound ⟨by omega, by omega⟩
      simp only [e3, Result.andThen_ok]
      rw [hh]
      simp
    · simp only [Instr.sliceBounds, Sem.run_bind, Sem.run_pure, Result.andThen_ok, e, e2]

theorem opt_rel {ρ : Ren} {tm : List V} {a : Act} (h : TR ρ tm a.tmps) (o : Option Operand) : (o.map (ev tm) = none ∧ o.map a.eval = none) ∨ ∃ v x, o.map (ev tm) = some v ∧ o.map a.eval = some x ∧ R ρ v x := by
  cases o with
  | none => exact .inl ⟨rfl, rfl⟩
  | some x => exact .inr ⟨_, _, rfl, rfl, ev_spec h x⟩

theorem slice_sliceAt {t : TypeId} {x : Value} {L H : Option Value} {P : Program} {w : World} {e : TypeId} (hu : P.underlying t = some (.slice e)) : (Instr.sliceAt t x L H none).run P w = (Instr.slice t x L H none).run P w := by
  simp only [Instr.sliceAt, Sem.run_bind, run_underlying hu, Result.andThen_ok]
theorem slice_sliceAt' {t : TypeId} {x : Value} {L H : Option Value} {P : Program} {w : World} (hu : P.underlying t = some .string) : (Instr.sliceAt t x L H none).run P w = (Instr.slice t x L H none).run P w := by
  simp only [Instr.sliceAt, Sem.run_bind, run_underlying hu, Result.andThen_ok]

theorem sliceV_spec {P : Program} {ρ : Ren} {t : TypeId} {x v : V} {X : Value} {lo hi : Option V} {L H : Option Value} (h : Leads (sliceV P t x lo hi) v) (hx : R ρ x X)
    (hlo : (lo = none ∧ L = none) ∨ ∃ v x, lo = some v ∧ L = some x ∧ R ρ v x) (hhi : (hi = none ∧ H = none) ∨ ∃ v x, hi = some v ∧ H = some x ∧ R ρ v x) :
    ∃ z, R ρ v z ∧ ∀ w, (Instr.sliceAt t X L H none).run P w = .ok z w := by
  unfold sliceV at h
  split at h
  · rename_i e a n c sy hu
    split at h
    · rename_i sz l s1 hh s2 hsz hl hh'
      have h00 := h.ask_inv
      clear h
      obtain ⟨h0, h⟩ := h00
      have bl := bnd_spec (P := P) hl hlo
      have bh := bnd_spec (P := P) hh' hhi
      cases hx with
      | slice a n c' c sy b hb hc he =>
        have run : ∀ w, (Instr.sliceAt t (.slice (some ⟨b, (ρ.k a.id).2 + (a.o + a.i * a.s), none⟩) n c') L H none).run P w =
            .ok (.slice (if c' = l.toNat then some ⟨b, (ρ.k a.id).2 + (a.o + a.i * a.s), none⟩ else some ⟨b, (ρ.k a.id).2 + (a.o + a.i * a.s) + l.toNat * sz, none⟩) (hh.toNat - l.toNat) (c' - l.toNat)) w := by
          intro w
          rw [slice_sliceAt hu]
          simp only [Instr.slice, Sem.run_bind, run_underlying hu, Result.andThen_ok, run_sliceBounds bl bh h0 hc, run_sizeOf hsz, Sem.run_pure, Option.map_some, add_real]
        have sub : hh.toNat - l.toNat = (hh - l).toNat := by omega
        have fin : ∀ (a' : A) (c2 : Cap) (sy' : Bool), ρ a'.id a'.j = some b → a'.id = a.id → a'.o + a'.i * a'.s = a.o + a.i * a.s + l.toNat * sz → CapIs ρ a.id (a.o + a.i * a.s + l.toNat * sz) c2 (c' - l.toNat) →
            ∃ z, R ρ (.slice a' (hh - l).toNat c2 sy') z ∧ ∀ w, (Instr.sliceAt t (.slice (some ⟨b, (ρ.k a.id).2 + (a.o + a.i * a.s), none⟩) n c') L H none).run P w = .ok z w := by
          intro a' c2 sy' hb' hid ho hc2
          by_cases hcl : c' = l.toNat
          · refine ⟨_, ?_, run⟩
            rw [if_pos hcl, sub]
            have e1 : (hh - l).toNat = 0 := by omega
            have e2 : c' - l.toNat = 0 := by omega
            rw [e1, e2]
            exact .empty _ _ _ _ (by simp) (fun k hk => by subst hk; rw [← hc2]; exact e2)
          · refine ⟨_, ?_, run⟩
            rw [if_neg hcl, sub]
            exact .sliceAt hb' (by omega) (by rw [hid, ho]; exact hc2) (by rw [hid, ho]; omega)
        split at h
        · rw [h.ret_inv]
          have hl0 : l = 0 := by
            simp only [bnd, Option.some.injEq, Prod.mk.injEq] at hl
            omega
          subst hl0
          exact fin a c _ hb rfl (by simp) (by simpa using he)
        · have hless : ∀ {o' : Nat}, CapIs ρ a.id o' c c' → c.fits sz = true → l.toNat ≤ c' → CapIs ρ a.id (o' + l.toNat * sz) (c.less l.toNat) (c' - l.toNat) := by
            intro o' h1 h2 h3
            cases c with
            | known n => unfold CapIs at *; simp only [Cap.less]; rw [h1]
            | rest e =>
              have := beq_eq h2
              subst this
              unfold CapIs at *
              simp only [Cap.less]
              rw [← h1, Nat.sub_mul]
              have := Nat.mul_le_mul_right e h3
              omega
          cases hf : c.fits sz with
          | false => rw [hf] at h; exact h.fail_inv.elim
          | true =>
          rw [hf] at h
          simp only [Bool.not_true, cond_false] at h
          cases hq : (sy || (s1 || s2)) with
          | true =>
            simp only [hq, cond_true] at h
            obtain ⟨a', h2, h⟩ := h.bind_inv
            have h2 := h2.opt_inv
            rw [h.ret_inv]
            have hid : ρ a'.id a'.j = some b ∧ a'.id = a.id ∧ a'.o + a'.i * a'.s = a.o + a.i * a.s + l.toNat * sz := by
              unfold idxA at h2
              split at h2
              · rename_i hs
                simp only [Option.some.injEq] at h2
                subst h2
                exact ⟨hb, rfl, by simp only [hs]; omega⟩
              · rename_i s hs
                obtain ⟨hss, h2⟩ := bif_some h2
                subst h2
                have := beq_eq hss
                exact ⟨hb, rfl, by simp only [hs, Nat.succ_eq_add_one, Nat.add_mul]; rw [← this]; omega⟩
            exact fin a' _ _ hid.1 hid.2.1 hid.2.2 (hless he hf (by omega))
          | false =>
            simp only [hq, cond_false] at h
            rw [h.ret_inv]
            exact fin { a with o := a.o + l.toNat * sz } _ _ hb rfl (by simp only; omega) (hless he hf (by omega))
      | empty a x c sy hx he =>
        have l0 : l = 0 := by omega
        have h00 : hh = 0 := by omega
        subst l0; subst h00
        have run : ∀ w, (Instr.sliceAt t (.slice x 0 0) L H none).run P w = .ok (.slice x 0 0) w := by
          intro w
          rw [slice_sliceAt hu]
          simp only [Instr.slice, Sem.run_bind, run_underlying hu, Result.andThen_ok, run_sliceBounds bl bh h0 (Nat.le_refl _), run_sizeOf hsz, Sem.run_pure]
          simp
        split at h
        · rw [h.ret_inv]
          exact ⟨_, .empty _ _ _ _ (fun q => by rw [hx q]; rfl) he, run⟩
        · have hless : ∀ k, c.less (Int.toNat 0) = .known k → k = 0 := by
            intro k hk
            cases c with
            | known n => simp only [Cap.less, Cap.known.injEq] at hk; rw [← hk, he n rfl]; rfl
            | rest e => cases hk
          cases hf : c.fits sz with
          | false => rw [hf] at h; exact h.fail_inv.elim
          | true =>
          rw [hf] at h
          simp only [Bool.not_true, cond_false] at h
          cases hq : (sy || (s1 || s2)) with
          | true =>
            simp only [hq, cond_true] at h
            obtain ⟨a', h2, h⟩ := h.bind_inv
            rw [h.ret_inv]
            exact ⟨_, .empty _ _ _ _ (fun _ => rfl) hless, run⟩
          | false =>
            simp only [hq, cond_false] at h
            rw [h.ret_inv]
            refine ⟨_, .empty _ _ _ _ (fun q => ?_) hless, run⟩
            rw [hx q] at hq
            cases hq
    · exact h.fail_inv.elim
  · rename_i e hu
    split at h
    · rename_i sz l s1 hh s2 hsz hl hh'
      obtain ⟨h0, h⟩ := h.ask_inv
      rw [h.ret_inv]
      have bl := bnd_spec (P := P) hl hlo
      have bh := bnd_spec (P := P) hh' hhi
      cases hx
      refine ⟨_, .nilSlice, fun w => ?_⟩
      obtain ⟨rfl, rfl⟩ := h0
      rw [slice_sliceAt hu]
      simp only [Instr.slice, Sem.run_bind, run_underlying hu, Result.andThen_ok, run_sliceBounds bl bh (by simp) (Nat.le_refl _), run_sizeOf hsz, Sem.run_pure]
      simp
    · exact h.fail_inv.elim
  · rename_i s sy hu
    split at h
    · rename_i l s1 hh s2 hl hh'
      obtain ⟨h0, h⟩ := h.ask_inv
      rw [h.ret_inv]
      have bl := bnd_spec (P := P) hl hlo
      have bh := bnd_spec (P := P) hh' hhi
      cases hx
      refine ⟨_, .str _ _, fun w => ?_⟩
      rw [slice_sliceAt' hu]
      simp only [Instr.slice, Sem.run_bind, run_underlying hu, Result.andThen_ok, Option.isSome_none, Bool.false_eq_true, if_false, run_sliceBounds bl bh h0 (Nat.le_refl _), Sem.run_pure]
    · exact h.fail_inv.elim
  · rename_i n e a hu
    split at h
    · rename_i sz l s1 hh s2 hsz hl hh'
      split at h
      · obtain ⟨h0, h⟩ := h.ask_inv
        rw [h.ret_inv]
        have bl := bnd_spec (P := P) hl hlo
        have bh := bnd_spec (P := P) hh' hhi
        have hl0 : l = 0 := by
          simp only [bnd, Option.some.injEq, Prod.mk.injEq] at hl
          omega
        subst hl0
        cases hx with
        | ptr a b hb =>
          refine ⟨_, .slice a _ n (.known n) s2 b hb (by omega) rfl, fun w => ?_⟩
          simp only [Instr.sliceAt, Sem.run_bind, run_underlying hu, Result.andThen_ok, Instr.sureAddr, Sem.run_pure, run_sliceBounds bl bh ⟨by omega, h0.1, h0.2⟩ (Nat.le_refl _), run_sizeOf hsz, add_real]
          simp
      · exact h.fail_inv.elim
    · exact h.fail_inv.elim
  · exact h.fail_inv.elim

theorem pickV_spec {ρ : Ren} {c a b v : V} {Cc Aa Bb : Value} (h : Leads (pickV c a b) v) (hc : R ρ c Cc) (ha : R ρ a Aa) (hb : R ρ b Bb) :
    ∃ x : Bool, Cc = .bool x ∧ R ρ v (if x then Aa else Bb) := by
  unfold pickV at h
  split at h
  · rename_i x
    rw [h.ret_inv]; cases hc
    refine ⟨x, rfl, ?_⟩
    cases x <;> assumption
  · rename_i x
    rw [h.ret_inv]; cases hc
    refine ⟨x, rfl, ?_⟩
    cases x
    · exact sel_false hb
    · exact sel_true ha
  · exact h.fail_inv.elim

theorem lenV_spec {P : Program} {ρ : Ren} {t ty : TypeId} {x v : V} {X : Value} (h : Leads (lenV P t x) v) (hx : R ρ x X) : ∃ z, R ρ v z ∧ ∀ w, (Builtin.len_ #[t] ty #[X]).run P w = .ok z w := by
  unfold lenV at h
  split at h
  · rename_i e a n c sy hu
    rw [h.ret_inv]
    cases hx with
    | slice a n c' c sy b hb hc he => exact ⟨_, mkInt_spec .., fun w => by simp [Builtin.len_, run_underlying hu, goInt]⟩
    | empty a x c sy hx he => exact ⟨_, mkInt_spec .., fun w => by simp [Builtin.len_, run_underlying hu, goInt]⟩
  · rename_i e hu
    rw [h.ret_inv]; cases hx
    exact ⟨_, .int _ _, fun w => by simp [Builtin.len_, run_underlying hu, goInt]⟩
  · rename_i s sy hu
    rw [h.ret_inv]; cases hx
    exact ⟨_, mkInt_spec .., fun w => by simp [Builtin.len_, run_underlying hu, goInt]⟩
  · rename_i n e x hu
    rw [h.ret_inv]
    exact ⟨_, .int _ _, fun w => by simp [Builtin.len_, run_underlying hu, goInt]⟩
  · exact h.fail_inv.elim

theorem nilCheckV_spec {P : Program} {ρ : Ren} {tm : List V} {a : Act} {x : Operand} {o : Oper} {v : V} (ho : o.op = .nilCheck x) (h : Leads (nilCheckV (ev tm x)) v) (hx : R ρ (ev tm x) (a.eval x)) :
    ∃ z, R ρ v z ∧ ∀ w, (execOp a.eval o).run P w = .ok (.value z) w := by
  unfold nilCheckV at h
  generalize hX : a.eval x = X at hx
  split at h
  · rename_i b hb
    rw [h.ret_inv]; rw [hb] at hx
    cases hx with
    | ptr a b hb => exact ⟨_, .ptr _ _ hb, fun w => by simp only [execOp, ho, hX]; rfl⟩
  · rename_i n b hb
    obtain ⟨h0, h⟩ := h.need_inv
    rw [h.ret_inv]; rw [hb] at hx
    subst h0
    cases hx with
    | sptr c a b hb => exact ⟨_, .ptr _ _ (hb rfl), fun w => by simp only [execOp, ho, hX]; rfl⟩
  · rename_i f p q hb
    rw [h.ret_inv]; rw [hb] at hx
    cases hx with
    | func fn f c f' c' h1 h2 => exact ⟨_, .func _ _ _ _ _ h1 h2, fun w => by simp only [execOp, ho, hX]; rfl⟩
  · exact h.fail_inv.elim

theorem isIfaceT_spec {P : Program} {t : TypeId} (h : isIfaceT P t = some false) : P.concrete t = true := by
  unfold isIfaceT at h
  unfold Program.concrete
  split at h
  · cases h
  · rename_i d hd hu
    rw [hu]
    cases d <;> first | rfl | exact (hd _ rfl).elim
  · cases h

theorem value_run {P : Program} {s : Sem Value} {w w' : World} {x : Value} (h : s.run P w = .ok x w') : (do pure (.value (← s)) : Sem Next).run P w = .ok (.value x) w' := by
  simp only [Sem.run_bind, h, Result.andThen_ok, Sem.run_pure]

/-- What leaves memory alone yields one value, in every world that keeps what is there. -/
theorem pure_spec {P : Program} {ρ : Ren} {eqs : List TypeId} (hE : EqsOk P eqs) {m : Mem} {w : World} {tm : List V} {a : Act} {o : Oper} {t : T V} {v : V} (hr : Rel ρ m w) (htr : TR ρ tm a.tmps)
    (h : pureOp P eqs m tm o.op = some t) (hl : Leads t v) : ∃ x, R ρ v x ∧ ∀ w', Below w.heap.size w w' → (execOp a.eval o).run P w' = .ok (.value x) w' := by
  unfold pureOp at h
  split at h
  · rename_i x ho
    simp only [Option.some.injEq] at h; subst h
    rw [hl.ret_inv]
    exact ⟨_, ev_spec htr x, fun w' _ => by simp only [execOp, ho]; rfl⟩
  · rename_i x ho
    simp only [Option.some.injEq] at h; subst h
    rw [hl.ret_inv]
    exact ⟨_, ev_spec htr x, fun w' _ => by simp only [execOp, ho]; rfl⟩
  · rename_i c p q ho
    simp only [Option.some.injEq] at h; subst h
    obtain ⟨x, hx, hv⟩ := pickV_spec hl (ev_spec htr c) (ev_spec htr p) (ev_spec htr q)
    refine ⟨_, hv, fun w' _ => ?_⟩
    simp only [execOp, ho, hx, asBool, Sem.run_bind, Sem.run_pure, Result.andThen_ok]
  · rename_i ty parts ho
    simp only [Option.some.injEq] at h; subst h
    obtain ⟨z, hz, hw⟩ := buildV_spec htr hl
    exact ⟨z, hz, fun w' _ => by simp only [execOp, ho]; exact value_run (hw w')⟩
  · rename_i ty x ho
    simp only [Option.some.injEq] at h; subst h
    have hx := ev_spec htr x
    split at hl
    · rename_i b hb
      rw [hb] at hx
      generalize hX : a.eval x = X at hx
      cases hx with
      | ptr b b' hb' =>
        obtain ⟨z, hz, hw⟩ := ldV_spec hr hl hb'
        refine ⟨z, hz, fun w' hb => ?_⟩
        simp only [execOp, ho, hX]
        refine value_run ?_
        simp only [Instr.loadAt, Instr.sureAddr, Sem.run_bind, Sem.run_pure, Result.andThen_ok]
        exact hw w' hb
    · exact hl.fail_inv.elim
  · rename_i x ho
    simp only [Option.some.injEq] at h; subst h
    obtain ⟨z, hz, hw⟩ := nilCheckV_spec (P := P) ho hl (ev_spec htr x)
    exact ⟨z, hz, fun w' _ => hw w'⟩
  · rename_i op ty x y yt ho
    simp only [Option.some.injEq] at h; subst h
    obtain ⟨z, hz, hw⟩ := binV_spec hE x y hl (ev_spec htr x) (ev_spec htr y)
    exact ⟨z, hz, fun w' _ => by simp only [execOp, ho]; exact value_run (hw w')⟩
  · rename_i op ty x ho
    simp only [Option.some.injEq] at h; subst h
    obtain ⟨z, hz, hw⟩ := unV_spec (P := P) hl (ev_spec htr x)
    exact ⟨z, hz, fun w' _ => by simp only [execOp, ho]; exact value_run (hw w')⟩
  · rename_i s d x ho
    have h' : Leads (convV P s d (ev tm x)) v := by
      split at h
      · split at h
        · simp only [Option.some.injEq] at h; subst h; simp_all
        · cases h
      · cases h
      · simp only [Option.some.injEq] at h; subst h; exact hl
    obtain ⟨z, hz, hw⟩ := convV_spec (P := P) h' (ev_spec htr x)
    exact ⟨z, hz, fun w' _ => by simp only [execOp, ho]; exact value_run (hw w')⟩
  · rename_i ty x ho
    simp only [Option.some.injEq] at h; subst h
    split at hl
    · rename_i hi
      rw [hl.ret_inv]
      exact ⟨_, .iface _ _ _ (ev_spec htr x), fun w' _ => by simp only [execOp, ho]; exact value_run (run_makeInterface w' ty _ (isIfaceT_spec hi))⟩
    · exact hl.fail_inv.elim
  · rename_i fn first captured ho
    simp only [Option.some.injEq] at h; subst h
    rw [hl.ret_inv]
    refine ⟨_, .func fn _ _ _ _ (evL_spec htr first.toList) (evL_spec htr captured.toList), fun w' _ => ?_⟩
    simp only [execOp, ho]
    refine value_run ?_
    simp only [Instr.makeFunc, Sem.run_pure]
    congr 2
    · apply Array.ext'; simp
    · apply Array.ext'; simp
  · rename_i ty x lo hi ho
    simp only [Option.some.injEq] at h; subst h
    obtain ⟨z, hz, hw⟩ := sliceV_spec hl (ev_spec htr x) (opt_rel htr lo) (opt_rel htr hi)
    exact ⟨z, hz, fun w' _ => by simp only [execOp, ho]; exact value_run (hw w')⟩
  · rename_i ty x f ho
    simp only [Option.some.injEq] at h; subst h
    obtain ⟨z, hz, hw⟩ := fieldAddrV_spec (P := P) hl (ev_spec htr x)
    exact ⟨z, hz, fun w' _ => by simp only [execOp, ho]; exact value_run (hw w')⟩
  · rename_i ty x f ho
    simp only [Option.some.injEq] at h; subst h
    obtain ⟨z, hz, hw⟩ := fieldV_spec (P := P) hl (ev_spec htr x)
    exact ⟨z, hz, fun w' _ => by simp only [execOp, ho]; exact value_run (hw w')⟩
  · rename_i ty x ix ho
    simp only [Option.some.injEq] at h; subst h
    obtain ⟨z, hz, hw⟩ := indexAddrV_spec (P := P) hl (ev_spec htr x) (ev_spec htr ix)
    exact ⟨z, hz, fun w' _ => by simp only [execOp, ho]; exact value_run (hw w')⟩
  · rename_i ty x ix ho
    simp only [Option.some.injEq] at h; subst h
    obtain ⟨z, hz, hw⟩ := indexV_spec (P := P) hl (ev_spec htr x) (ev_spec htr ix)
    exact ⟨z, hz, fun w' _ => by simp only [execOp, ho]; exact value_run (hw w')⟩
  · rename_i x i ho
    simp only [Option.some.injEq] at h; subst h
    have hx := ev_spec htr x
    split at hl
    · rename_i vs hb
      rw [hb] at hx
      generalize hX : a.eval x = X at hx
      cases hx with
      | tuple vs xs hvs =>
        obtain ⟨y, h1, h2⟩ := objL_RL hvs hl.opt_inv
        refine ⟨y, h2, fun w' _ => ?_⟩
        simp only [execOp, ho, hX]
        refine value_run ?_
        simp only [Instr.extract, List.getElem?_toArray, h1, Sem.run_pure]
    · exact hl.fail_inv.elim
  · rename_i x ty ho
    have h' : Leads (lenV P ty (ev tm x)) v := by
      split at h
      · cases h
      · simp only [Option.some.injEq] at h; subst h; exact hl
    obtain ⟨z, hz, hw⟩ := lenV_spec (P := P) (ty := o.type) h' (ev_spec htr x)
    refine ⟨z, hz, fun w' _ => ?_⟩
    simp only [execOp, ho, resolve, Sem.run_bind, Sem.run_pure, Result.andThen_ok, invoke, builtin]
    have h2 := hw w'
    simp only [List.map_toArray, List.map_cons, List.map_nil]
    rw [h2]
    rfl
  · cases h

end Go.X
