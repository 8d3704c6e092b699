/- New of chapter 16: its contract. -/
import Derived.Test.YtomeoihdhkmamaaDoorZyP
set_option linter.unusedVariables false
set_option linter.unusedSimpArgs false
namespace Go.Proofs.YtomeoihdhkmamaaDoor
open Go.X
set_option maxRecDepth 100000

def corOk (b : Blk) (c : Cor) : Bool := decide (c.el = 0 ∨ c.el = 1) && (decide (0 ≤ c.wait ∧ c.wait ≤ 2) && (decide (0 ≤ c.id ∧ c.id < 8) && decide (c.el = b.el)))

/-- The run at its beginning. -/
def startRn (b : Blk) (c : Cor) : Rn := ⟨b.n, b.ops, fun _ => 0, b.el, 0, c, ⟨0, 0, 0, 0, false, 0, false, 0, 0, 0⟩, false, false, 0, false⟩

def newOut (x : NewX) : V × Option Mem := (.tuple [pt 3, .int .i64 0], some ⟨[opsO x.b.N x.b.ops, opsO x.b.n x.b.ops, valsO x.b.n fun _ => 0, .cells true 71 false ((startRn x.b x.c).cells .off 1 2 3)], 1⟩)
def newZ (x : NewX) : T (V × Option Mem) := .need (x.b.n ≤ x.b.N) (.ite (rightB x.b) (.ite (corOk x.b x.c) (.ret (newOut x)) (.ret (.tuple [.nil, .int .i64 1], none))) (.ret (.tuple [.nil, .int .i64 4], none)))

noncomputable def newCall (x : NewX) : T (V × Option Mem) := call Tryd.prog E6 200 9 (newA x) ⟨newM x, 1⟩
def newTail (x : NewX) : Sk :=
  .ite (decide (x.c.wait ≥ 0)) (.ite (decide (x.c.wait ≤ 2)) (.ite (decide (x.c.id ≥ 0)) (.ite (!decide (x.c.id < 8)) .ret (.ite (x.c.el != x.b.el) .ret (.need (x.b.n ≤ x.b.N) (.need (x.b.n * ((47 : Nat) + (1 : Nat)) ≤ (140737488355328 : Nat))
    (.need ((0 : Int) ≤ (x.b.n : Int) ∧ (x.b.n : Int) ≤ (x.b.n : Int) ∧ ((8 : Nat) : Int) * (x.b.n : Int) ≤ (281474976710656 : Int) ∧ (x.b.n : Int) ≤ (9223372036854775807 : Int)) .ret))))) .ret) .ret) .ret
theorem new_sk (x : NewX) : (newCall x).sk = .fit (.need (x.b.n ≤ x.b.N) (.ite (!rightB x.b) .ret (.ite (x.c.el == 0) (newTail x) (.ite (x.c.el == 1) (newTail x) .ret)))) := by kernel_rfl

theorem rightB_n {b : Blk} (h : rightB b = true) : 1 ≤ b.n ∧ b.n ≤ 512 := by
  unfold rightB at h
  simp only [Bool.and_eq_true, decide_eq_true_eq] at h
  exact ⟨h.2.2.2.2.2.1, h.2.2.2.2.2.2.1⟩

theorem errRefs (n : Nat) (k : Int) : refs (fun a => a.id < n) (V.tuple [.nil, .int .i64 k]) := ⟨trivial, trivial, trivial⟩

theorem tail_ok {x : NewX} {t : T (V × Option Mem)} {K : Option (V × Option Mem) → Prop} (hn : x.b.n ≤ x.b.N) (hr : x.b.n ≤ 512) (hc : corOk x.b x.c = true) (hk : K t.L.L.L.R.R.L.L.L.out) : (newTail x).Holds K t := by
  unfold corOk at hc
  simp only [Bool.and_eq_true, decide_eq_true_eq] at hc
  obtain ⟨h1, h2, h3, h4⟩ := hc
  unfold newTail
  refine ⟨fun _ => ⟨fun _ => ⟨fun _ => ⟨fun q => ?_, fun _ => ⟨fun q => ?_, fun _ => ⟨hn, by omega, ⟨by omega, by omega, by omega, by omega⟩, hk⟩⟩⟩, fun q => ?_⟩, fun q => ?_⟩, fun q => ?_⟩
  all_goals simp at q; omega

theorem tail_no {x : NewX} {t : T (V × Option Mem)} {K : Option (V × Option Mem) → Prop} (hel : x.c.el = 0 ∨ x.c.el = 1) (hc : corOk x.b x.c = false) (h1 : K t.R.out) (h2 : K t.L.R.out) (h3 : K t.L.L.R.out) (h4 : K t.L.L.L.L.out) (h5 : K t.L.L.L.R.L.out) : (newTail x).Holds K t := by
  unfold newTail
  refine ⟨fun q1 => ⟨fun q2 => ⟨fun q3 => ⟨fun _ => h4, fun q4 => ⟨fun _ => h5, fun q5 => ?_⟩⟩, fun _ => h3⟩, fun _ => h2⟩, fun _ => h1⟩
  exfalso
  have : corOk x.b x.c = true := by
    simp at q1 q2 q3 q4 q5
    unfold corOk
    simp only [Bool.and_eq_true, decide_eq_true_eq]
    exact ⟨hel, ⟨q1, q2⟩, ⟨q3, q4⟩, q5⟩
  rw [hc] at this
  cases this

theorem new_s : CallS Tryd.prog 9 newA newM newZ := by
  refine CallS.of_call E6_ok 200 ?_
  intro x r hl
  obtain ⟨hn, hl⟩ := hl.need_inv
  rcases hl.ite_inv with ⟨hb, hl⟩ | ⟨hb, hl⟩
  · have hbn := (rightB_n hb).2
    rcases hl.ite_inv with ⟨hc, hl⟩ | ⟨hc, hl⟩
    · have hl := hl.ret_inv
      subst hl
      refine call_of (new_sk x) ⟨by kernel_rfl, hn, fun q => ?_, fun _ => ⟨fun _ => ?_, fun q => ⟨fun _ => ?_, fun q2 => ?_⟩⟩⟩
      · rw [hb] at q; cases q
      · exact tail_ok hn hbn hc (KC.mk [0, 3, 4, 5] (by kernel_rfl) fun q => by cases q)
      · exact tail_ok hn hbn hc (KC.mk [0, 3, 4, 5] (by kernel_rfl) fun q => by cases q)
      · exfalso
        unfold corOk at hc
        simp only [Bool.and_eq_true, decide_eq_true_eq] at hc
        simp at q q2
        omega
    · have hl := hl.ret_inv
      subst hl
      refine call_of (new_sk x) ⟨by kernel_rfl, hn, fun q => ?_, fun _ => ⟨fun q => ?_, fun _ => ⟨fun q => ?_, fun q2 => KC.mk [] (by kernel_rfl) fun _ => errRefs _ _⟩⟩⟩
      · rw [hb] at q; cases q
      · exact tail_no (.inl (by simpa using q)) hc (KC.mk [] (by kernel_rfl) fun _ => errRefs _ _) (KC.mk [] (by kernel_rfl) fun _ => errRefs _ _) (KC.mk [] (by kernel_rfl) fun _ => errRefs _ _) (KC.mk [] (by kernel_rfl) fun _ => errRefs _ _) (KC.mk [] (by kernel_rfl) fun _ => errRefs _ _)
      · exact tail_no (.inr (by simpa using q)) hc (KC.mk [] (by kernel_rfl) fun _ => errRefs _ _) (KC.mk [] (by kernel_rfl) fun _ => errRefs _ _) (KC.mk [] (by kernel_rfl) fun _ => errRefs _ _) (KC.mk [] (by kernel_rfl) fun _ => errRefs _ _) (KC.mk [] (by kernel_rfl) fun _ => errRefs _ _)
  · have hl := hl.ret_inv
    subst hl
    refine call_of (new_sk x) ⟨by kernel_rfl, hn, fun _ => KC.mk [] (by kernel_rfl) fun _ => errRefs _ _, fun q => ?_⟩
    rw [hb] at q; cases q

theorem new_sound : Sound newA newM newZ (·.2) := by
  intro x
  refine ⟨⟨⟨⟨trivial, trivial, trivial, .inl ⟨_, rfl, rfl⟩, trivial⟩, ?_, trivial⟩, ⟨fun k _ => ⟨trivial, trivial, trivial, trivial, trivial, trivial, trivial⟩, trivial⟩, trivial⟩, ?_⟩
  · exact ⟨fun k _ => ⟨trivial, trivial⟩, fun k _ => ⟨trivial, trivial⟩, trivial, trivial, trivial, trivial, trivial, trivial, trivial, trivial, trivial, trivial, trivial, trivial, trivial, trivial, trivial, trivial, trivial⟩
  · intro r m hl hm
    obtain ⟨hn, hl⟩ := hl.need_inv
    rcases hl.ite_inv with ⟨hb, hl⟩ | ⟨hb, hl⟩
    · rcases hl.ite_inv with ⟨hc, hl⟩ | ⟨hc, hl⟩
      · have hl := hl.ret_inv
        subst hl
        cases hm
        exact ⟨fun _ => trivial, trivial⟩
      · have hl := hl.ret_inv
        subst hl
        cases hm
    · have hl := hl.ret_inv
      subst hl
      cases hm

noncomputable def newI (args : List V) (objs : List O) : Option (List Nat × NewX) :=
  match args with
  | [.agg cs, .agg ds] => match rbI [.agg cs] objs with
    | some (l, b) => some (l, ⟨b, toCor (getL ds)⟩)
    | none => none
  | _ => none

noncomputable def E9 : Env := E8.addExt 9 (framedC newI newA newM newZ)
theorem E9_ok : EnvOk Tryd.prog E9 := E8_ok.addExt (new_s.ok new_sound newI)
end Go.Proofs.YtomeoihdhkmamaaDoor
