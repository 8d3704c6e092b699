/- IrTwice: its row and its card: the given statement Rows.IrTwiceCardSaid is proved: the law IrTwice returns true on every input. No conditions beyond the statement's own. -/
import Derived.Test.YtomeoihdhkmamaaDoorZtD
import Derived.Test.YtomeoihdhkmamaaDoorZyZ
set_option linter.unusedVariables false
namespace Go.Proofs.YtomeoihdhkmamaaDoor
open Go.X Go.ChangeShapes Go.WideShapes
open Go.RowKit (shut_bool Below)
set_option maxRecDepth 100000

section
variable {H : Type} {enc : TypeId × Value → H} {P : Program} {w : World} {base fuel : Nat} {spare : Nat → Bool} {held : Bool}

/-- How much a slice that came in weighs. -/
theorem slice_size {t e : TypeId} {sa : Option Addr} {n cap : Nat} {x : DataW H × List MemPlace} (hu : P.underlying t = some (.slice e)) (h : DataW.trod enc P w base spare held fuel t [.slice sa n cap] = some x)
    (hw : ∀ m ∈ x.1.weights P t, m ≤ reachBytes) : n * P.bytesOf e ≤ reachBytes := by
  rcases DataW.trod_slice hu h with ⟨h1, _⟩ | ⟨a, len, cap2, elems, rest, m, _, h1, rfl, _, _, _, hlen, _⟩
  · cases h1
    rw [Nat.zero_mul]; exact Nat.zero_le _
  · cases h1
    have := hw ((elems.length + rest.length) * P.bytesOf e) (by simp [DataW.weights, hu])
    exact Nat.le_trans (Nat.mul_le_mul_right _ (by omega)) this
end

theorem blk_size {H : Type} {enc : TypeId × Value → H} {W : World} {d : DataW H} {p : List MemPlace} {a b c : Value} {sa : Option Addr} {n cap : Nat} (h : DataW.Trod enc Tryd.prog W 0 (fun _ => true) true 25 (.agg #[a, b, c, .slice sa n cap]) d p)
    (hw : ∀ m ∈ d.weights Tryd.prog 25, m ≤ reachBytes) : n * (47 + 1) ≤ 140737488355328 := by
  obtain ⟨fuel, hf⟩ := h
  obtain ⟨xs, k, rfl, hx, _, hxl, hfs⟩ := DataW.trod_struct Tryd.underlying25 hf
  simp only [Prod.mk.injEq] at hx
  obtain ⟨rfl, rfl⟩ := hx
  have f3 := hfs 3 _ rfl
  obtain ⟨y3, e3⟩ : ∃ y, xs[3]? = some y := ⟨xs[3]'(by rw [hxl]; decide), List.getElem?_eq_getElem _⟩
  rw [e3] at f3
  have h1 := slice_size Tryd.underlying23 f3 fun m hm => hw m (by
    unfold DataW.weights
    rw [Tryd.underlying25]
    refine DataW.weights_mem_each (j := 3) (t := 23) (d := y3.1) (by rfl) ?_ m hm
    rw [List.getElem?_map, e3]; rfl)
  have hb : Tryd.prog.bytesOf 42 = 48 := by kernel_rfl
  rw [hb] at h1
  have hr : reachBytes ≤ 140737488355328 := by decide
  omega

theorem SliceIn.len {w : World} {sa : Option Addr} {n0 cap0 : Nat} {ts : List Sc} {n c : Nat} (h : SliceIn w (.slice sa n0 cap0) ts n c) : n0 = n := by
  rcases h with ⟨h, rfl, _⟩ | ⟨_, _, _, _, _, _, h, _⟩
  · cases h; rfl
  · cases h; rfl

/-- .. that may lean on the size of the block that came in. -/
def True3s (f : FuncId) : Prop := ∀ (x : KeepX) (ρ : Ren) (w : World) (xs : List Value), x.b.n ≤ x.b.N → x.a.m ≤ x.a.N → x.b.n * (47 + 1) ≤ 140737488355328 → Rel ρ ⟨keepM x, 2⟩ w → RL ρ (keepA x) xs → Calls Tryd.prog f xs.toArray w fun e w' => e = .returned (.bool true) ∧ Below w.heap.size w w'

theorem twice_true : True3s 6 := by
  intro x ρ w xs h1 h2 h3 hr hx
  refine (twice_s x (.sbool true) none xs ρ w (.need ⟨⟨h1, h2⟩, h3⟩ (.ret _)) hr hx).mono ?_
  rintro e w' ⟨y, rfl, hy, hb⟩
  cases hy
  exact ⟨rfl, hb⟩

theorem row3s {f : FuncId} (hT : True3s f) {H : Type} {enc : TypeId × Value → H} {W : World} {base : Nat} {v0 v1 v2 : Value} {d0 d1 d2 : DataW H} {p0 p1 p2 : List MemPlace}
    (hz : ∀ m ∈ d0.weights Tryd.prog 25, m ≤ reachBytes)
    (k0 : Value.okWide Tryd.prog W .any base 25 v0) (k1 : Value.okWide Tryd.prog W .any base 29 v1) (k2 : Value.okWide Tryd.prog W .any base 30 v2)
    (h0 : DataW.Trod enc Tryd.prog W 0 (fun _ => true) true 25 v0 d0 p0) (h1 : DataW.Trod enc Tryd.prog W 0 (fun _ => true) true 29 v1 d1 p1) (h2 : DataW.Trod enc Tryd.prog W 0 (fun _ => true) true 30 v2 d2 p2) :
    Calls Tryd.prog f #[v0, v1, v2] W fun e w' => e = .returned (.bool true) ∧ Below W.heap.size W w' := by
  obtain ⟨pc, words, el, s, n, cap, rfl, hin, hone⟩ := open_blk k0 h0
  have hsz : n * (47 + 1) ≤ 140737488355328 := by
    have hs : ∃ sa n0 cap0, s = .slice sa n0 cap0 := by
      rcases hin with ⟨h, _⟩ | ⟨_, _, _, _, _, _, h, _⟩
      · exact ⟨_, _, _, h⟩
      · exact ⟨_, _, _, h⟩
    obtain ⟨sa, n0, cap0, rfl⟩ := hs
    have := SliceIn.len (w := W) (ts := opSc) (c := cap) hin
    subst this
    exact blk_size h0 hz
  obtain ⟨c, hc⟩ := open_cor k1 h1
  obtain ⟨m, cap2, hin2⟩ := open_ans k2 h2
  obtain ⟨x0, g, hg, hb0, ho0⟩ := hin.open
  obtain ⟨x1, g2, hg2, hb1, ho1⟩ := hin2.open
  obtain ⟨r0, o0⟩ := ho0 [x0, x1] 0 rfl
  obtain ⟨r1, o1⟩ := ho1 [x0, x1] 1 rfl
  refine hT ⟨⟨pc, words, el, n, .known cap, n, fun k => toOpV (g k)⟩, c, ⟨m, .known cap2, m, fun k => toGtV (g2 k)⟩⟩ (Ren.reads [x0, x1]) W [.agg #[.int .u64 pc, .int .i64 words, .int .i64 el, s], v1, v2] (Nat.le_refl _) (Nat.le_refl _) hsz ?_ ?_
  · refine Rel.reads rfl rfl ?_ ?_ 2
    · intro x hx b hb
      simp only [List.mem_cons, List.not_mem_nil, or_false] at hx
      rcases hx with rfl | rfl
      · exact hb0 b hb
      · exact hb1 b hb
    · intro i o h
      match i, h with
      | 0, h => cases h; exact o0 42 _ (fun k hk => op_cells (hg k hk))
      | 1, h => cases h; exact o1 44 _ (fun k hk => gt_cells (hg2 k hk))
  · refine .cons _ _ _ _ (.agg _ [_, _, _, _] (.sintCons (.sintCons (.sintCons (.one _ _ _ _ r0 hone .nil))))) (.cons _ _ _ _ (hc _) (.cons _ _ _ _ r1 .nil))

theorem twice_lifted (os : Os) (started : os.Started) (H : Type) (enc : TypeId × Value → H) :
    ReturnsInHanded {} Tryd.checked os 6 .any (fun w args => (Rows.irTwiceSpec.pre enc Tryd.prog Tryd.f6 Rows.irTwiceRow.domain false w args ∧ laidMetH Tryd.prog Rows.irTwiceRow.laid w) ∧ sizedMet enc Tryd.prog Tryd.f6 (OpenSpec.ofChange Rows.irTwiceSpec) false w args)
      (Rows.irTwiceSpec.post enc Tryd.prog Tryd.f6 false true false false) := by
  refine returnsInHanded_of_change_and (C := Tryd.checked) (X := fun w _ => laidMetH Tryd.prog Rows.irTwiceRow.laid w) (fun _ _ _ hh h => h.of_heap hh) own started (by kernel_rfl) Tryd.func6
    (ChangeSpec.witness_shaped (enc := enc) (C := Tryd.checked) (os := os) (X := fun w _ => laidMetH Tryd.prog Rows.irTwiceRow.laid w) false (World.laidAll Tryd.prog os Rows.irTwiceRow.laid) zero3 8 (World.laidAll_os _ _ _)
      (World.shaped_of_ZipB (by kernel_rfl) (by kernel_rfl)) (by kernel_rfl) (by kernel_rfl) (by kernel_rfl)
      (by rw [MakeChecks.laidMetH_plain _ _ _ (by kernel_rfl)]; exact laidMet_laidAll _ (by kernel_rfl) (by kernel_rfl))) ?_
  intro W base args ds gs before hval0 hW hc hz hL _
  have hval : ∀ (j : Nat) t v, Tryd.f6.params[j]? = some t → args[j]? = some v → Value.okWide Tryd.prog W .any base t v := hval0
  have hW' := hW
  obtain ⟨p, q, hA0, hV, rfl, _, _⟩ := hW
  have hA : DataW.TrodAll enc Tryd.prog W 0 (fun _ => true) true Tryd.f6.params.toList args.toList ds p := hA0
  rw [Tryd.params6] at hA hval
  obtain ⟨v0, vs0, d0, ds0, p0, q0, hargs, rfl, rfl, h0, r0⟩ := trodAll_cons hA
  obtain ⟨v1, vs1, d1, ds1, p1, q1, rfl, rfl, rfl, h1, r1⟩ := trodAll_cons r0
  obtain ⟨v2, vs2, d2, ds2, p2, q2, rfl, rfl, rfl, h2, r2⟩ := trodAll_cons r1
  obtain ⟨rfl, rfl, rfl⟩ := trodAll_nil r2
  obtain rfl : args = #[v0, v1, v2] := by cases args; simp_all
  obtain ⟨rfl, rfl⟩ := trodVars_none hV
  refine (row3s twice_true (fun m hm => of_decide_eq_true (List.all_eq_true.1 hz m (DataW.weights_mem_each (j := 0) (t := 25) (d := d0) (by kernel_rfl) rfl m hm))) (hval 0 25 v0 rfl rfl) (hval 1 29 v1 rfl rfl) (hval 2 30 v2 rfl rfl) h0 h1 h2).mono fun e W' ⟨he, bel⟩ => ?_
  subst he
  have lt0 : ∀ x ∈ p0, x.block < W.heap.size := by obtain ⟨m, hm⟩ := h0; exact DataW.trod_lt m _ _ _ hm
  have lt1 : ∀ x ∈ p1, x.block < W.heap.size := by obtain ⟨m, hm⟩ := h1; exact DataW.trod_lt m _ _ _ hm
  have lt2 : ∀ x ∈ p2, x.block < W.heap.size := by obtain ⟨m, hm⟩ := h2; exact DataW.trod_lt m _ _ _ hm
  exact ⟨_, rfl, _, _, _, [], _, [], hW', trodAll_mk1 (shut_bool Tryd.underlying4 _),
    trodAll_cons_mk (Below.trod laidOut (by kernel_rfl) (of_decide_eq_true (by kernel_rfl)) h0 bel lt0) (trodAll_cons_mk (Below.trod laidOut (by kernel_rfl) (of_decide_eq_true (by kernel_rfl)) h1 bel lt1) (trodAll_cons_mk (Below.trod laidOut (by kernel_rfl) (of_decide_eq_true (by kernel_rfl)) h2 bel lt2) trodAll_mk0)), rfl, bel.frame _, fun h => by cases h⟩

theorem irTwice_row : Rows.IrTwiceSaid :=
  OpenClaim.holds_of_wide 6 Tryd.f6 rfl rfl rfl rfl rfl rfl rfl ⟨rfl, rfl, rfl, rfl, rfl⟩ rfl rfl rfl rfl rfl (by kernel_rfl) Tryd.func6 (by kernel_rfl)
    (of_decide_eq_true (by kernel_rfl)) (by unfold Func.isWrapper; first | (rw [if_pos (by decide +kernel)]; kernel_rfl) | (rw [if_neg (by decide +kernel)]; exact ⟨rfl, rfl⟩))
    (fun os started H enc _ => twice_lifted os started H enc)

theorem irTwice_card : Rows.IrTwiceCardSaid :=
  Claim7.holds_tied_plain_at .later [] [.data, .data, .data] true (true, "1aea0f8a6832442604fa4fa65f50e0cc19e5e28bb613c72d7666230c4815e156") true
    irTwice_row (fun _ h => by cases h) (by kernel_rfl) (fun _ h => by cases h) irTwice_row_tie rfl ⟨rfl, rfl⟩ (by kernel_rfl) rfl
    (fun f fn hf hfn => by
      obtain rfl : f = 6 := Option.some.inj ((show Tryd.prog.funcNamed "understudy/understudylaw16.IrTwice" = some 6 by kernel_rfl).symm.trans hf) |>.symm
      obtain rfl : fn = Tryd.f6 := (Option.some.inj (Tryd.func6.symm.trans hfn)).symm
      exact ⟨by kernel_rfl, fun j t ht => by
        rw [Tryd.params6] at ht
        exact wants3 j t ht⟩)
    (by kernel_rfl)
#print axioms irTwice_card
end Go.Proofs.YtomeoihdhkmamaaDoor
