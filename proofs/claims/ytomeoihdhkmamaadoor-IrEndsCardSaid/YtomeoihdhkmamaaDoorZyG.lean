/- rightOp of chapter 16: its contract. -/
import Derived.Test.YtomeoihdhkmamaaDoorZyF
set_option linter.unusedVariables false
set_option linter.unusedSimpArgs false
namespace Go.Proofs.YtomeoihdhkmamaaDoor
open Go.X
set_option maxRecDepth 100000

theorem right_else (k r a b ord imm : Int) (n N : Nat) (c : Cap) (ops : Nat → Op6) (hk : k < 1 ∨ 18 < k) : Leads (call Tryd.prog E2 200 43 [V.agg [.sint .i64 k, .sint .i64 r, .sint .i64 a, .sint .i64 b, .sint .i64 ord, .sint .u64 imm], .slice ⟨0, 0, 0, 0, 0⟩ n c true] ⟨[.cells false 42 true [.arr N 6 (rows ops)]], 1⟩) (.bool false, none) := by
  refine .goR (k == 1) (by kernel_rfl) (by simp; omega) ?_
  refine .goR (k == 2) (by kernel_rfl) (by simp; omega) ?_
  refine .goR (k == 3) (by kernel_rfl) (by simp; omega) ?_
  refine .goR (k == 4) (by kernel_rfl) (by simp; omega) ?_
  refine .goR (k == 5) (by kernel_rfl) (by simp; omega) ?_
  refine .goR (k == 6) (by kernel_rfl) (by simp; omega) ?_
  refine .goR (k == 7) (by kernel_rfl) (by simp; omega) ?_
  refine .goR (k == 8) (by kernel_rfl) (by simp; omega) ?_
  refine .goR (k == 9) (by kernel_rfl) (by simp; omega) ?_
  refine .goR (k == 10) (by kernel_rfl) (by simp; omega) ?_
  refine .goR (k == 11) (by kernel_rfl) (by simp; omega) ?_
  refine .goR (k == 12) (by kernel_rfl) (by simp; omega) ?_
  refine .goR (k == 13) (by kernel_rfl) (by simp; omega) ?_
  refine .goR (k == 14) (by kernel_rfl) (by simp; omega) ?_
  refine .goR (k == 15) (by kernel_rfl) (by simp; omega) ?_
  refine .goR (k == 16) (by kernel_rfl) (by simp; omega) ?_
  refine .goR (k == 17) (by kernel_rfl) (by simp; omega) ?_
  refine .goR (k == 18) (by kernel_rfl) (by simp; omega) ?_
  exact .goE (by kernel_rfl)

theorem fieldB_else {k r o i : Int} (hk : k < 1 ∨ 18 < k) : fieldB k r o i = false := by
  unfold fieldB
  split <;> first | rfl | omega

/-- What a contract of rightOp is about. -/
structure RightX where
  o : Op6
  n : Nat
  c : Cap
  N : Nat
  ops : Nat → Op6

def rightA (x : RightX) : List V := [.agg x.o.cells, .slice ⟨0, 0, 0, 0, 0⟩ x.n x.c true]
def rightM (x : RightX) : List O := [.cells false 42 true [.arr x.N 6 (rows x.ops)]]
def rightZ (x : RightX) : T (V × Option Mem) := .need (x.n ≤ x.N) (.ret (.sbool (rightOpB x.n x.ops x.o), none))

theorem rightOp_s : CallS Tryd.prog 43 rightA rightM rightZ := by
  refine CallS.of_call' E2_ok 200 ?_
  rintro ⟨⟨k, r, a, b, ord, imm⟩, n, c, N, ops⟩ r0 hl
  obtain ⟨hn, hl⟩ := hl.need_inv
  have hl := hl.ret_inv
  subst hl
  simp only at hn ⊢
  by_cases hk : k < 1 ∨ 18 < k
  · refine ⟨_, fun _ _ h => h, _, right_else k r a b ord imm n N c ops hk, ?_⟩
    show weak (.sbool _) (.bool false) = .sbool _
    rw [show rightOpB n ops ⟨k, r, a, b, ord, imm⟩ = (fieldB k r ord imm && useB (usesN k) n ops a b) from rfl, fieldB_else hk]
    rfl
  · have hk : k = 1 ∨ k = 2 ∨ k = 3 ∨ k = 4 ∨ k = 5 ∨ k = 6 ∨ k = 7 ∨ k = 8 ∨ k = 9 ∨ k = 10 ∨ k = 11 ∨ k = 12 ∨ k = 13 ∨ k = 14 ∨ k = 15 ∨ k = 16 ∨ k = 17 ∨ k = 18 := by omega
    rcases hk with rfl | rfl | rfl | rfl | rfl | rfl | rfl | rfl | rfl | rfl | rfl | rfl | rfl | rfl | rfl | rfl | rfl | rfl
    · exact ⟨_, fun _ _ h => h.litHead, right_is1 r a b ord imm n N c ops hn⟩
    · exact ⟨_, fun _ _ h => h.litHead, right_is2 r a b ord imm n N c ops hn⟩
    · exact ⟨_, fun _ _ h => h.litHead, right_is3 r a b ord imm n N c ops hn⟩
    · exact ⟨_, fun _ _ h => h.litHead, right_is4 r a b ord imm n N c ops hn⟩
    · exact ⟨_, fun _ _ h => h.litHead, right_is5 r a b ord imm n N c ops hn⟩
    · exact ⟨_, fun _ _ h => h.litHead, right_is6 r a b ord imm n N c ops hn⟩
    · exact ⟨_, fun _ _ h => h.litHead, right_is7 r a b ord imm n N c ops hn⟩
    · exact ⟨_, fun _ _ h => h.litHead, right_is8 r a b ord imm n N c ops hn⟩
    · exact ⟨_, fun _ _ h => h.litHead, right_is9 r a b ord imm n N c ops hn⟩
    · exact ⟨_, fun _ _ h => h.litHead, right_is10 r a b ord imm n N c ops hn⟩
    · exact ⟨_, fun _ _ h => h.litHead, right_is11 r a b ord imm n N c ops hn⟩
    · exact ⟨_, fun _ _ h => h.litHead, right_is12 r a b ord imm n N c ops hn⟩
    · exact ⟨_, fun _ _ h => h.litHead, right_is13 r a b ord imm n N c ops hn⟩
    · exact ⟨_, fun _ _ h => h.litHead, right_is14 r a b ord imm n N c ops hn⟩
    · exact ⟨_, fun _ _ h => h.litHead, right_is15 r a b ord imm n N c ops hn⟩
    · exact ⟨_, fun _ _ h => h.litHead, right_is16 r a b ord imm n N c ops hn⟩
    · exact ⟨_, fun _ _ h => h.litHead, right_is17 r a b ord imm n N c ops hn⟩
    · exact ⟨_, fun _ _ h => h.litHead, right_is18 r a b ord imm n N c ops hn⟩

theorem rightOp_sound : Sound rightA rightM rightZ (·.2) := by
  intro x
  refine ⟨⟨⟨⟨trivial, trivial, trivial, trivial, trivial, trivial, trivial⟩, .inl ⟨_, rfl, rfl⟩, trivial⟩, ⟨fun k _ => ⟨trivial, trivial, trivial, trivial, trivial, trivial, trivial⟩, trivial⟩, trivial⟩, ?_⟩
  intro r m hl hm
  obtain ⟨hn, hl⟩ := hl.need_inv
  have hl := hl.ret_inv
  subst hl
  cases hm

/-- The number in a value. -/
def iv : V → Int
  | .int _ n => n
  | .sint _ n => n
  | _ => 0
def toOp : List V → Op6
  | [k, r, a, b, o, i] => ⟨iv k, iv r, iv a, iv b, iv o, iv i⟩
  | _ => ⟨0, 0, 0, 0, 0, 0⟩

noncomputable def rightI (args : List V) (objs : List O) : Option (List Nat × RightX) :=
  match args with
  | [.agg cs, .slice a n c _] => match objL objs a.id with
    | some (.cells _ _ _ [.arr N _ f]) => some ([a.id], ⟨toOp cs, n, c, N, fun k => toOp (f k)⟩)
    | _ => none
  | _ => none

noncomputable def E3 : Env := E2.addExt 43 (framedC rightI rightA rightM rightZ)
theorem E3_ok : EnvOk Tryd.prog E3 := E2_ok.addExt (rightOp_s.ok rightOp_sound rightI)
end Go.Proofs.YtomeoihdhkmamaaDoor
