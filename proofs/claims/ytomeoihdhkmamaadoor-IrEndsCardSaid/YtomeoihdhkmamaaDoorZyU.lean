/- IrKeeps: its second loop, and what it comes to. -/
import Derived.Test.YtomeoihdhkmamaaDoorZyT
set_option linter.unusedVariables false
set_option linter.unusedSimpArgs false
namespace Go.Proofs.YtomeoihdhkmamaaDoor
open Go.X
set_option maxRecDepth 100000

/-- What an operation may have changed, set back. -/
def rstK (k : Int) (b : Blk) (c d : Cor) (o : Op6) : Cor :=
  match k with
  | 3 => { d with X := setAt d.X o.r.toNat (c.X o.r.toNat) }
  | 5 => { d with SP := setAt d.SP b.el.toNat (c.SP b.el.toNat) }
  | 7 => d.setF o.r (c.flag o.r)
  | _ => d

def k2Sk (x : K2) (o : Op6) : Sk := Sk.ite (decide (x.i < (↑x.b.n : Int))) (Sk.need ((0 : Int) ≤ x.i ∧ x.i < (↑x.b.n : Int)) (Sk.need (x.i.toNat < x.b.N) (Sk.ite (o.k == (3 : Int)) (Sk.need ((0 : Int) ≤ x.i ∧ x.i < (↑x.b.n : Int)) (Sk.need (x.i.toNat < x.b.N) (Sk.need ((0 : Int) ≤ x.i ∧ x.i < (↑x.b.n : Int)) (Sk.need (x.i.toNat < x.b.N) (Sk.need ((0 : Int) ≤ o.r ∧ o.r < (↑(31 : Nat) : Int)) (Sk.need (o.r.toNat < (31 : Nat)) (Sk.need ((0 : Int) ≤ o.r ∧ o.r < (↑(31 : Nat) : Int)) (Sk.need (o.r.toNat < (31 : Nat)) Sk.ret)))))))) (Sk.ite (o.k == (5 : Int)) (Sk.need ((0 : Int) ≤ x.b.el ∧ x.b.el < (↑(2 : Nat) : Int)) (Sk.need (x.b.el.toNat < (2 : Nat)) (Sk.need ((0 : Int) ≤ x.b.el ∧ x.b.el < (↑(2 : Nat) : Int)) (Sk.need (x.b.el.toNat < (2 : Nat)) Sk.ret)))) (Sk.ite (o.k == (7 : Int)) (Sk.need ((0 : Int) ≤ x.i ∧ x.i < (↑x.b.n : Int)) (Sk.need (x.i.toNat < x.b.N) (Sk.ite (o.r == (0 : Int)) Sk.ret (Sk.ite (o.r == (1 : Int)) Sk.ret (Sk.ite (o.r == (2 : Int)) Sk.ret Sk.ret))))) Sk.ret))))) Sk.ret

theorem k2_sk (x : K2) (h : Nat → Value) : (k2Round x h).sk = k2Sk x (x.b.ops x.i.toNat) := by kernel_rfl

structure BlkOk (b : Blk) : Prop where
  n1 : b.n ≤ 512
  nN : b.n ≤ b.N
  op : ∀ i, i < b.n → OpOk b.n (b.ops i)
  e0 : 0 ≤ b.el
  e1 : b.el ≤ 1

structure K2Inv (x : K2) : Prop where
  b : BlkOk x.b
  i0 : 0 ≤ x.i
  i1 : x.i ≤ x.b.n

def k2To (x : K2) : K2 := { x with d := rstK (x.b.ops x.i.toNat).k x.b x.c x.d (x.b.ops x.i.toNat), i := IntKind.i64.wrap (x.i + 1) }
def k2Next (x : K2) : Option K2 := bif decide (x.i < x.b.n) then some (k2To x) else none
def k2Mu (x : K2) : Nat := (x.b.n - x.i).toNat
noncomputable def k2Out (x : K2) (d : Cor) : Ex × St := (.exit 2, ⟨slots 134 [(4, pt 2), (14, pt 3)], ⟨[opsO x.b.N x.b.ops, .cells false 25 true (x.b.cells 0), corO x.c, .cells true 29 false d.cells], 3⟩⟩)
def k2End (x : K2) : Cor := (endOf k2Next (k2Mu x) x).d
noncomputable def k2Z (x : K2) : T (Ex × St) := .need (K2Inv x) (.ret (k2Out x (k2End x)))

theorem k2_wrap {x : K2} (hi : K2Inv x) (h : x.i < x.b.n) : IntKind.i64.wrap (x.i + 1) = x.i + 1 := IntWalk.i64_in _ (by have := hi.b.n1; have := hi.i0; omega)

theorem k2Next_some {x y : K2} (h : k2Next x = some y) : x.i < x.b.n ∧ y = k2To x := by
  unfold k2Next at h
  obtain ⟨h1, h2⟩ := bif_some h
  exact ⟨of_decide_eq_true h1, h2.symm⟩

theorem k2_dec (x y : K2) (hi : K2Inv x) (hn : k2Next x = some y) : K2Inv y ∧ k2Mu y < k2Mu x := by
  obtain ⟨h1, rfl⟩ := k2Next_some hn
  have hw := k2_wrap hi h1
  have h0 := hi.i0
  refine ⟨⟨hi.b, ?_, ?_⟩, ?_⟩
  · show 0 ≤ IntKind.i64.wrap (x.i + 1); rw [hw]; omega
  · show IntKind.i64.wrap (x.i + 1) ≤ (x.b.n : Int); rw [hw]; omega
  · show ((x.b.n : Int) - IntKind.i64.wrap (x.i + 1)).toNat < ((x.b.n : Int) - x.i).toNat; rw [hw]; omega

theorem k2_go (x : K2) (h : Nat → Value) (hi : K2Inv x) (hlt : x.i < x.b.n) :
    (k2Sk x (x.b.ops x.i.toNat)).Holds (KL 4 [6, 7] h .normal ⟨k2S (k2To x), ⟨k2M (k2To x), 3⟩⟩) (k2Round x h) := by
  have h0 := hi.i0
  have hN := hi.b.nN
  have hop := hi.b.op x.i.toNat (by omega)
  have n1 : (0 : Int) ≤ x.i ∧ x.i < (x.b.n : Int) := ⟨h0, hlt⟩
  have n2 : x.i.toNat < x.b.N := by omega
  have e0 := hi.b.e0; have e1 := hi.b.e1
  have d1 : decide (x.i < (x.b.n : Int)) = true := decide_eq_true hlt
  unfold k2Sk
  simp only [Sk.Holds, d1, Bool.true_eq_false, true_implies, false_implies, and_true]
  refine ⟨n1, n2, fun q => ?_, fun q => ⟨fun q2 => ?_, fun q2 => ⟨fun q3 => ?_, fun q3 => ?_⟩⟩⟩
  · have hk : (x.b.ops x.i.toNat).k = 3 := by simpa using q
    have hr := hop.r2 (.inr hk)
    rw [show k2To x = { x with d := rstK 3 x.b x.c x.d (x.b.ops x.i.toNat), i := IntKind.i64.wrap (x.i + 1) } by unfold k2To; rw [hk]]
    exact ⟨n1, n2, n1, n2, ⟨hr.1, by omega⟩, by omega, ⟨hr.1, by omega⟩, by omega, KL.mk [0, 1, 2, 3] (by kernel_rfl)⟩
  · have hk : (x.b.ops x.i.toNat).k = 5 := by simpa using q2
    rw [show k2To x = { x with d := rstK 5 x.b x.c x.d (x.b.ops x.i.toNat), i := IntKind.i64.wrap (x.i + 1) } by unfold k2To; rw [hk]]
    exact ⟨⟨e0, by omega⟩, by omega, ⟨e0, by omega⟩, by omega, KL.mk [0, 1, 2, 3] (by kernel_rfl)⟩
  · have hk : (x.b.ops x.i.toNat).k = 7 := by simpa using q3
    have hr := hop.r6 (.inr hk)
    have e : ∀ r, (x.b.ops x.i.toNat).r = r → k2To x = { x with d := x.d.setF r (x.c.flag r), i := IntKind.i64.wrap (x.i + 1) } := by
      rintro r rfl
      unfold k2To
      rw [hk]
      rfl
    refine ⟨n1, n2, fun p => ?_, fun p1 => ⟨fun p => ?_, fun p2 => ⟨fun p => ?_, fun p3 => ?_⟩⟩⟩
    · rw [e 0 (by simpa using p)]; exact KL.mk [0, 1, 2, 3] (by kernel_rfl)
    · rw [e 1 (by simpa using p)]; exact KL.mk [0, 1, 2, 3] (by kernel_rfl)
    · rw [e 2 (by simpa using p)]; exact KL.mk [0, 1, 2, 3] (by kernel_rfl)
    · rw [e 3 (by simp at p1 p2 p3; omega)]; exact KL.mk [0, 1, 2, 3] (by kernel_rfl)
  · have e : k2To x = { x with d := x.d, i := IntKind.i64.wrap (x.i + 1) } := by
      unfold k2To rstK
      split
      · rename_i hk; rw [hk] at q; cases q
      · rename_i hk; rw [hk] at q2; cases q2
      · rename_i hk; rw [hk] at q3; cases q3
      · rfl
    rw [e]
    exact KL.mk [0, 1, 2, 3] (by kernel_rfl)

theorem k2End_same (x : K2) : (endOf k2Next (k2Mu x) x).b = x.b ∧ (endOf k2Next (k2Mu x) x).c = x.c := by
  refine endOf_ind (next := k2Next) (fun y => y.b = x.b ∧ y.c = x.c) ?_ _ x ⟨rfl, rfl⟩
  rintro y z ⟨h1, h2⟩ hn
  obtain ⟨_, rfl⟩ := k2Next_some hn
  exact ⟨h1, h2⟩

theorem k2_sum : SumS Tryd.prog k2Body [6, 7] k2S k2M k2Z := by
  refine SumS.of_rounds E11_ok 200 Tryd.func4 rfl (within_of_mem (bodyIs.mk (id := 19) (by kernel_rfl)).mem) k2M 3 4 K2Inv k2Next k2Mu (fun x => .ret (k2Out x x.d)) (by rfl) ?_ ?_ ?_
  · intro x r hl
    obtain ⟨hi, hl⟩ := hl.need_inv
    refine ⟨hi, rfl, ⟨[], (List.append_nil _).symm, trivial⟩, ?_⟩
    obtain ⟨h1, h2⟩ := k2End_same x
    have e : k2Out (endOf k2Next (k2Mu x) x) (k2End x) = k2Out x (k2End x) := by
      unfold k2Out
      rw [h1, h2]
    rw [← e] at hl
    exact hl
  · intro x y h hi hn
    obtain ⟨g1, g2⟩ := k2_dec x y hi hn
    obtain ⟨h1, rfl⟩ := k2Next_some hn
    exact ⟨g1, g2, round_of (k2_sk x h) (k2_go x h hi h1)⟩
  · intro x h hi hn e st hl
    have hl := hl.ret_inv
    unfold k2Out at hl
    simp only [Prod.mk.injEq] at hl
    obtain ⟨rfl, rfl⟩ := hl
    refine ⟨fun q => (by cases q), round_of (k2_sk x h) ?_⟩
    have hc : decide (x.i < (x.b.n : Int)) = false := by
      cases hc : decide (x.i < (x.b.n : Int)) with
      | false => rfl
      | true => unfold k2Next at hn; rw [hc] at hn; cases hn
    unfold k2Sk
    simp only [Sk.Holds, hc, Bool.false_eq_true, true_implies, false_implies, true_and]
    exact KL.mk [0, 1, 2, 3] (by kernel_rfl)

theorem cor_refs (c : Cor) {P : A → Prop} : refsL P c.cells := ⟨fun k _ => ⟨trivial, trivial⟩, fun k _ => ⟨trivial, trivial⟩, trivial, trivial, trivial, trivial, trivial, trivial, trivial, trivial, trivial, trivial, trivial, trivial, trivial, trivial, trivial, trivial, trivial⟩

theorem k2_sound : Sound k2S k2M k2Z (fun r => some r.2.mem) := by
  intro x
  refine ⟨⟨?_, ops_refs .., blk_refs _ (.inl ⟨_, rfl, rfl⟩), cor_refs _, cor_refs _, trivial⟩, ?_⟩
  · show refsL _ (slots 134 _)
    repeat' first | exact trivial | exact .inl ⟨_, rfl, rfl⟩ | refine And.intro ?_ ?_
  · intro r m hl hm
    obtain ⟨hn, hl⟩ := hl.need_inv
    have hl := hl.ret_inv
    subst hl
    cases hm
    exact ⟨fun _ => trivial, fun _ => trivial, fun _ => trivial, fun _ => trivial, trivial⟩

noncomputable def corAt (objs : List O) (v : V) : Option (Nat × Cor) :=
  match v with
  | .ptr p => match objL objs p.id with
    | some (.cells _ _ _ cs) => some (p.id, toCor (getL cs))
    | _ => none
  | _ => none

noncomputable def k2I (st : St) : Option (List Nat × K2) :=
  match blkAt st.mem.objs (getL st.tm 3), corAt st.mem.objs (getL st.tm 4), corAt st.mem.objs (getL st.tm 14) with
  | some (pi, oi, b), some (ci, c), some (di, d) => some ([oi, pi, ci, di], ⟨b, c, d, iv (getL st.tm 15)⟩)
  | _, _, _ => none

noncomputable def E12 : Env := E11.addSum 4 19 (framedL [6, 7] k2I k2S k2M k2Z)
theorem E12_ok : EnvOk Tryd.prog E12 := E11_ok.addSum Tryd.func4 rfl (bodyIs.mk (id := 19) (by kernel_rfl)) (k2_sum.ok k2_sound k2I)

/-! ### The law -/

structure KeepX where
  b : Blk
  c : Cor
  a : Ans
def keepA (x : KeepX) : List V := [.agg (x.b.cells 0), .agg x.c.cells, slc 1 x.a.m x.a.c]
def keepM (x : KeepX) : List O := [opsO x.b.N x.b.ops, gtsO x.a.N x.a.got]
noncomputable def keepCall (x : KeepX) : T (V × Option Mem) := call Tryd.prog E12 200 4 (keepA x) ⟨keepM x, 2⟩
end Go.Proofs.YtomeoihdhkmamaaDoor
