/- IrKeeps: its contract. -/
import Derived.Test.YtomeoihdhkmamaaDoorZyV
set_option linter.unusedVariables false
set_option linter.unusedSimpArgs false
namespace Go.Proofs.YtomeoihdhkmamaaDoor
open Go.X
set_option maxRecDepth 100000

theorem allFrom_all {p : Nat → Bool} : ∀ {d i : Nat}, allFrom p i d = true → ∀ j, i ≤ j → j < i + d → p j = true
  | 0, i, h, j, h1, h2 => by omega
  | d + 1, i, h, j, h1, h2 => by
    unfold allFrom at h
    rw [Bool.and_eq_true] at h
    by_cases hj : j = i
    · subst hj; exact h.1
    · exact allFrom_all h.2 j (by omega) (by omega)

theorem okUse_lt {n : Nat} {ops : Nat → Op6} {v : Int} (h : okUse n ops v = true) : 0 ≤ v ∧ v < n := by
  unfold okUse at h
  simp only [Bool.and_eq_true, decide_eq_true_eq] at h
  exact ⟨h.1, h.2.1⟩

theorem fieldB_kind {k r o i : Int} (h : fieldB k r o i = true) : 1 ≤ k ∧ k ≤ 18 := by
  by_cases hk : k < 1 ∨ 18 < k
  · rw [fieldB_else hk] at h; cases h
  · omega

theorem rightOp_ok {n i : Nat} {ops : Nat → Op6} {x : Op6} (h : rightOpB i ops x = true) (hi : i < n) : OpOk n x := by
  unfold rightOpB at h
  rw [Bool.and_eq_true] at h
  obtain ⟨hf, hu⟩ := h
  have hk := fieldB_kind hf
  have hab : (0 ≤ x.a ∧ x.a < n) ∧ (0 ≤ x.b ∧ x.b < n) := by
    unfold useB at hu
    split at hu
    · simp only [Bool.and_eq_true, beq_iff_eq] at hu; omega
    · simp only [Bool.and_eq_true, beq_iff_eq] at hu
      have := okUse_lt hu.2
      omega
    · simp only [Bool.and_eq_true] at hu
      have := okUse_lt hu.1
      have := okUse_lt hu.2
      omega
  refine ⟨hab.1.1, hab.1.2, hab.2.1, hab.2.2, hk.1, hk.2, ?_, ?_, ?_⟩
  · rintro (h | h) <;> rw [h] at hf <;> first | rw [fieldB2] at hf | rw [fieldB3] at hf
    all_goals simp only [Bool.and_eq_true, decide_eq_true_eq] at hf; exact hf.1
  · rintro (h | h) <;> rw [h] at hf <;> first | rw [fieldB6] at hf | rw [fieldB7] at hf
    all_goals simp only [Bool.and_eq_true, decide_eq_true_eq] at hf; exact hf.1
  · intro h
    rw [h, fieldB8] at hf
    simp only [Bool.and_eq_true, decide_eq_true_eq] at hf
    exact hf.1

theorem rightB_ok {b : Blk} (h : rightB b = true) (hN : b.n ≤ b.N) : BlkOk b ∧ 1 ≤ b.n ∧ ∀ i, i < b.n → endsB (b.ops i).k = decide (i + 1 = b.n) := by
  unfold rightB at h
  simp only [Bool.and_eq_true, decide_eq_true_eq] at h
  obtain ⟨_, _, _, e0, e1, n0, n1, _, _, hall⟩ := h
  have hat : ∀ i, i < b.n → okAt b i = true := fun i hi => allFrom_all hall i (Nat.zero_le _) (by omega)
  refine ⟨⟨n1, hN, fun i hi => ?_, e0, e1⟩, n0, fun i hi => ?_⟩
  · have := hat i hi
    unfold okAt at this
    rw [Bool.and_eq_true] at this
    exact rightOp_ok this.1 hi
  · have := hat i hi
    unfold okAt at this
    rw [Bool.and_eq_true, beq_iff_eq] at this
    exact this.2

theorem startRn_ok {b : Blk} {c : Cor} (h : rightB b = true) (hN : b.n ≤ b.N) : RnOk (startRn b c) := by
  obtain ⟨hb, h1, h2⟩ := rightB_ok h hN
  exact ⟨hb.n1, hb.op, h2, hb.e0, hb.e1, Int.le_refl 0, by show (0 : Int) ≤ (b.n : Int); omega, fun _ => by show (0 : Int) < (b.n : Int); omega⟩

/-- What a run of a block keeps. -/
structure Keeping (b : Blk) (c : Cor) (r : Rn) : Prop where
  ok : RnOk r
  n : r.n = b.n
  ops : r.ops = b.ops
  el : r.el = b.el
  keep : KeepC b 0 c r.c

theorem Keeping.next {b : Blk} {c : Cor} {r : Rn} (h : Keeping b c r) : Keeping b c (nxEndS (.off, r)).2 := by
  rw [nxEndS_eq]
  refine endOf_ind (next := nxNext) (fun p => Keeping b c p.2) ?_ _ (.off, r) h
  intro p q hp hn
  obtain ⟨h1, h2, rfl⟩ := nxNext_some hn
  obtain ⟨g1, g2, g3, _⟩ := stepK_same p.2.o.k p.2
  exact ⟨(stepRn_ok hp.ok h2).1, g1.trans hp.n, g2.trans hp.ops, g3.trans hp.el, hp.keep.step hp.n hp.ops hp.el hp.ok h2⟩

theorem Keeping.take {b : Blk} {c : Cor} {r : Rn} (h : Keeping b c r) (m : Mode) (g : Gt) : Keeping b c (takeRn m r g) := by
  obtain ⟨h1, h2, h3, h4, h5, _⟩ := takeRn_same m r g
  exact ⟨takeRn_ok g h.ok, h1.trans h.n, h2.trans h.ops, h3.trans h.el, by rw [h5]; exact h.keep⟩

theorem Keeping.run {b : Blk} {c : Cor} {x : Kp} (h : Keeping b c x.r) : Keeping b c (kpEnd x) := by
  have : Keeping b c (endOf kpNext (kpMu x) x).r := by
    refine endOf_ind (next := kpNext) (fun y => Keeping b c y.r) ?_ _ x h
    intro y z hy hn
    obtain ⟨_, _, rfl⟩ := kpNext_some hn
    exact hy.next.take _ _
  unfold kpEnd kpLast
  cases decide ((endOf kpNext (kpMu x) x).i ≤ ((endOf kpNext (kpMu x) x).b.n : Int)) with
  | true => exact this.next
  | false => exact this

/-! ### Setting back -/

theorem KeepC.reset {b : Blk} {c d : Cor} {i : Nat} (h : KeepC b i c d) (hb : BlkOk b) (hi : i < b.n) : KeepC b (i + 1) c (rstK (b.ops i).k b c d (b.ops i)) := by
  have later : ∀ k r, Sets b i k r → ((b.ops i).k = k ∧ (b.ops i).r.toNat = r) ∨ Sets b (i + 1) k r := by
    rintro k r ⟨j, h1, h2, h3, h4⟩
    by_cases hj : j = i
    · subst hj; exact .inl ⟨h3, h4⟩
    · exact .inr ⟨j, by omega, h2, h3, h4⟩
  have hop := hb.op i hi
  have sp : (b.ops i).k ≠ 5 → ∀ q, d.SP q = c.SP q ∨ (q = b.el.toNat ∧ ∃ j, i + 1 ≤ j ∧ j < b.n ∧ (b.ops j).k = 5) := by
    intro h5 q
    rcases h.SP q with h1 | ⟨s1, j, s2, s3, s4⟩
    · exact .inl h1
    · have : j ≠ i := by rintro rfl; exact h5 s4
      exact .inr ⟨s1, j, by omega, s3, s4⟩
  have xx : (b.ops i).k ≠ 3 → ∀ q, d.X q = c.X q ∨ Sets b (i + 1) 3 q := by
    intro h3 q
    refine (h.X q).imp (fun x => x) fun s => ?_
    rcases later _ _ s with ⟨s, _⟩ | s
    · exact (h3 s).elim
    · exact s
  have fl : ∀ (r : Nat) (P : Prop), (P ∨ Sets b i 7 r) → (b.ops i).k ≠ 7 ∨ (b.ops i).r.toNat ≠ r → P ∨ Sets b (i + 1) 7 r := by
    intro r P hP hne
    refine hP.imp (fun x => x) fun s => ?_
    rcases later _ _ s with ⟨s1, s2⟩ | s
    · rcases hne with hne | hne
      · exact (hne s1).elim
      · exact (hne s2).elim
    · exact s
  unfold rstK
  split
  · rename_i hk
    have h7 : (b.ops i).k ≠ 7 := by rw [hk]; decide
    refine ⟨fun q => ?_, sp (by rw [hk]; decide), fl 0 _ h.n (.inl h7), fl 1 _ h.z (.inl h7), fl 2 _ h.c' (.inl h7), fl 3 _ h.v (.inl h7), h.rest⟩
    show setAt d.X _ _ q = _ ∨ _
    unfold setAt
    cases hd : decide (q = (b.ops i).r.toNat) with
    | true => exact .inl (by rw [of_decide_eq_true hd]; rfl)
    | false =>
      refine (h.X q).imp (fun x => x) fun s => ?_
      rcases later _ _ s with ⟨_, s⟩ | s
      · exact (of_decide_eq_false hd s.symm).elim
      · exact s
  · rename_i hk
    have h7 : (b.ops i).k ≠ 7 := by rw [hk]; decide
    refine ⟨xx (by rw [hk]; decide), fun q => ?_, fl 0 _ h.n (.inl h7), fl 1 _ h.z (.inl h7), fl 2 _ h.c' (.inl h7), fl 3 _ h.v (.inl h7), h.rest⟩
    show setAt d.SP _ _ q = _ ∨ _
    unfold setAt
    cases hd : decide (q = b.el.toNat) with
    | true => exact .inl (by rw [of_decide_eq_true hd]; rfl)
    | false =>
      refine (h.SP q).imp (fun x => x) fun s => ?_
      exact (of_decide_eq_false hd s.1).elim
  · rename_i hk
    have hr := hop.r6 (.inr hk)
    have h3 : (b.ops i).k ≠ 3 := by rw [hk]; decide
    have h5 : (b.ops i).k ≠ 5 := by rw [hk]; decide
    have hr4 : (b.ops i).r = 0 ∨ (b.ops i).r = 1 ∨ (b.ops i).r = 2 ∨ (b.ops i).r = 3 := by omega
    rcases hr4 with hr | hr | hr | hr <;> rw [hr]
    · exact ⟨xx h3, sp h5, .inl rfl, fl 1 _ h.z (.inr (by rw [hr]; decide)), fl 2 _ h.c' (.inr (by rw [hr]; decide)), fl 3 _ h.v (.inr (by rw [hr]; decide)), h.rest⟩
    · exact ⟨xx h3, sp h5, fl 0 _ h.n (.inr (by rw [hr]; decide)), .inl rfl, fl 2 _ h.c' (.inr (by rw [hr]; decide)), fl 3 _ h.v (.inr (by rw [hr]; decide)), h.rest⟩
    · exact ⟨xx h3, sp h5, fl 0 _ h.n (.inr (by rw [hr]; decide)), fl 1 _ h.z (.inr (by rw [hr]; decide)), .inl rfl, fl 3 _ h.v (.inr (by rw [hr]; decide)), h.rest⟩
    · exact ⟨xx h3, sp h5, fl 0 _ h.n (.inr (by rw [hr]; decide)), fl 1 _ h.z (.inr (by rw [hr]; decide)), fl 2 _ h.c' (.inr (by rw [hr]; decide)), .inl rfl, h.rest⟩
  · rename_i h3 h5 h7
    exact ⟨xx h3, sp h5, fl 0 _ h.n (.inl h7), fl 1 _ h.z (.inl h7), fl 2 _ h.c' (.inl h7), fl 3 _ h.v (.inl h7), h.rest⟩

theorem rstK_pc (k : Int) (b : Blk) (c d : Cor) (o : Op6) : (rstK k b c d o).pc = d.pc := by
  unfold rstK
  split
  · rfl
  · rfl
  · unfold Cor.setF; split <;> rfl
  · rfl

theorem k2End_eq {x : K2} (hi : K2Inv x) (hk : KeepC x.b x.i.toNat x.c x.d) (hp : x.d.pc = x.c.pc) : corEqB (k2End x) x.c = true := by
  have hend : ∀ y, K2Inv y → k2Next y = none → y.i = y.b.n := by
    intro y hy hn
    unfold k2Next at hn
    have h1 := hy.i1
    cases hc : decide (y.i < (y.b.n : Int)) with
    | true => rw [hc] at hn; cases hn
    | false => have := of_decide_eq_false hc; omega
  have hall := endOf_ind (next := k2Next) (fun y => K2Inv y ∧ y.b = x.b ∧ y.c = x.c ∧ KeepC x.b y.i.toNat x.c y.d ∧ y.d.pc = x.c.pc) (by
    rintro y z ⟨h1, h2, h3, h4, h5⟩ hn
    have hd := k2_dec y z h1 hn
    obtain ⟨hlt, rfl⟩ := k2Next_some hn
    refine ⟨hd.1, h2, h3, ?_, ?_⟩
    · show KeepC x.b (IntKind.i64.wrap (y.i + 1)).toNat x.c (rstK (y.b.ops y.i.toNat).k y.b y.c y.d (y.b.ops y.i.toNat))
      have h0 := h1.i0
      rw [k2_wrap h1 hlt, show (y.i + 1).toNat = y.i.toNat + 1 by omega, h2, h3]
      exact h4.reset (by rw [← h2]; exact h1.b) (by rw [← h2]; omega)
    · show (rstK _ _ _ _ _).pc = _
      rw [rstK_pc]; exact h5) (k2Mu x) x ⟨hi, rfl, rfl, hk, hp⟩
  obtain ⟨h1, h2, h3, h4, h5⟩ := hall
  have hnone := endOf_end (next := k2Next) (Inv := K2Inv) (μ := k2Mu) (fun x y a b => k2_dec x y a b) (k2Mu x) x hi (Nat.le_refl _)
  have hin := hend _ h1 hnone
  have hno : ∀ {j : Nat}, (endOf k2Next (k2Mu x) x).i.toNat ≤ j → j < x.b.n → False := by
    intro j hj hj2
    rw [hin, h2] at hj
    omega
  have hset : ∀ {k r}, ¬ Sets x.b (endOf k2Next (k2Mu x) x).i.toNat k r := by
    rintro k r ⟨j, a, b, _⟩
    exact hno a b
  have hX := fun k => (h4.X k).resolve_right hset
  have hSP := fun k => (h4.SP k).resolve_right (fun ⟨_, j, a, b, _⟩ => hno a b)
  have hn := h4.n.resolve_right hset
  have hz := h4.z.resolve_right hset
  have hc := h4.c'.resolve_right hset
  have hv := h4.v.resolve_right hset
  obtain ⟨r1, r2, r3, r4, r5, r6, r7, r8, r9, r10, r11⟩ := h4.rest
  unfold corEqB k2End
  simp only [hX, hSP, hn, hz, hc, hv, h5, r1, r2, r3, r4, r5, r6, r7, r8, r9, r10, r11, beq_self_eq_true, Bool.and_true, Bool.true_and, List.all_eq_true, implies_true, Bool.and_eq_true, and_true]

/-- IrKeeps, called: true. -/
noncomputable def keepZ (x : KeepX) : T (V × Option Mem) := .need (x.b.n ≤ x.b.N ∧ x.a.m ≤ x.a.N) (.ret (.sbool true, none))
theorem keep_s : CallS Tryd.prog 4 keepA keepM keepZ := by
  refine CallS.of_call E12_ok 200 ?_
  intro x r hl
  obtain ⟨⟨hN, hM⟩, hl⟩ := hl.need_inv
  have hl := hl.ret_inv
  subst hl
  refine call_of (keep_sk x) ⟨by kernel_rfl, hN, fun hb => ⟨fun hc => ?_, fun _ => KC.bool true (keep_leaf2 x) rfl⟩, fun _ => KC.bool true (keep_leaf1 x) rfl⟩
  have hblk := (rightB_ok hb hN).1
  have hst := startRn_ok (c := x.c) hb hN
  have hkp : KpInv (kp0 x) := ⟨hst, hM, Int.le_refl 0, by show (0 : Int) ≤ (x.b.n : Int) + 1; omega, hblk.n1⟩
  have hk2 : K2Inv (k20 x) := ⟨hblk, Int.le_refl 0, by show (0 : Int) ≤ (x.b.n : Int); omega⟩
  have hkeep : Keeping x.b x.c (kpEnd (kp0 x)) := Keeping.run (x := kp0 x) ⟨hst, rfl, rfl, rfl, KeepC.refl ..⟩
  refine ⟨by kernel_rfl, hkp, ?_, by kernel_rfl, hk2, ⟨fun _ _ => rfl, fun _ _ => rfl⟩, KC.sbool _ (keep_leaf x) ?_⟩
  · exact ⟨fun _ _ => rfl, fun _ _ => rfl, trivial, trivial, trivial, trivial, trivial, trivial, trivial, trivial, trivial, trivial, trivial, trivial, trivial, trivial, trivial, trivial, trivial⟩
  · exact (k2End_eq hk2 (hkeep.keep.pc _) rfl).symm
end Go.Proofs.YtomeoihdhkmamaaDoor
