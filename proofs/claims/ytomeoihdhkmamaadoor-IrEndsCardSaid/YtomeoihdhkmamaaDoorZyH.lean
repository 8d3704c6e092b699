/- kindOf of chapter 16: its contract. -/
import Derived.Test.YtomeoihdhkmamaaDoorZyG
set_option linter.unusedVariables false
set_option linter.unusedSimpArgs false
namespace Go.Proofs.YtomeoihdhkmamaaDoor
open Go.X
set_option maxRecDepth 100000

def hasR (k : Int) : Bool := decide (k = 2) || decide (k = 3) || decide (k = 6) || decide (k = 7) || decide (k = 8) || decide (k = 13)
def hasImm (k : Int) : Bool := decide (k = 1) || decide (k = 14) || decide (k = 15) || decide (k = 16) || decide (k = 18)
def hasOrd (k : Int) : Bool := decide (k = 9) || decide (k = 10) || decide (k = 11) || decide (k = 12)
def endsB (k : Int) : Bool := decide (k = 16) || decide (k = 17) || decide (k = 18)
def isKind (k : Int) : Bool := decide (1 ≤ k) && decide (k ≤ 18)

def kindA (k : Int) : List V := [.sint .i64 k]
def kindM (_ : Int) : List O := []
def kindZ (k : Int) : T (V × Option Mem) :=
  .ret (.tuple [.agg [.unk, .sbool (hasR k), .sbool (hasImm k), .sbool (hasOrd k), .sint .i64 (usesN k), .sbool (defB k), .sbool (endsB k), .sbool (hasOrd k), .unk], .sbool (isKind k)], none)

theorem kind_else {k : Int} (hk : k < 1 ∨ 18 < k) : hasR k = false ∧ hasImm k = false ∧ hasOrd k = false ∧ usesN k = 0 ∧ defB k = false ∧ endsB k = false ∧ isKind k = false := by
  refine ⟨?_, ?_, ?_, ?_, ?_, ?_, ?_⟩
  · unfold hasR; simp; omega
  · unfold hasImm; simp; omega
  · unfold hasOrd; simp; omega
  · unfold usesN; split <;> first | rfl | omega
  · unfold defB; simp; omega
  · unfold endsB; simp; omega
  · unfold isKind; simp; omega

theorem kindOf_else (k : Int) (hk : k < 1 ∨ 18 < k) : Leads (call Tryd.prog E2 200 41 [.sint .i64 k] ⟨[], 0⟩) (.tuple [.agg [.str ⟨#[]⟩ false, .bool false, .bool false, .bool false, .int .i64 0, .bool false, .bool false, .bool false, .nilFunc], .bool false], none) := by
  refine .goR (k == 1) (by kernel_rfl) (by simp; omega) ?_
  refine .goR (k == 2) (by kernel_rfl) (by simp; omega) ?_
  refine .goR (k == 3) (by kernel_rfl) (by simp; omega) ?_
  refine .goR (k == 4) (by kernel_rfl) (by simp; omega) ?_
  refine .goR (k == 5) (by kernel_rfl) (by simp; omega) ?_
  refine .goR (k == 6) (by kernel_rfl) (by simp; omega) ?_
  refine .goR (k == 7) (by kernel_rfl) (by simp; omega) ?_
  refine .goR (k == 8) (by kernel_rfl) (by simp; omega) ?_
  refine .goR (k == 9) (by kernel_rfl) (by simp; omega) ?_
  refine .goR (k == 10) (by kernel_rfl) (by simp; omega) ?_
  refine .goR (k == 11) (by kernel_rfl) (by simp; omega) ?_
  refine .goR (k == 12) (by kernel_rfl) (by simp; omega) ?_
  refine .goR (k == 13) (by kernel_rfl) (by simp; omega) ?_
  refine .goR (k == 14) (by kernel_rfl) (by simp; omega) ?_
  refine .goR (k == 15) (by kernel_rfl) (by simp; omega) ?_
  refine .goR (k == 16) (by kernel_rfl) (by simp; omega) ?_
  refine .goR (k == 17) (by kernel_rfl) (by simp; omega) ?_
  refine .goR (k == 18) (by kernel_rfl) (by simp; omega) ?_
  exact .goE (by kernel_rfl)

theorem kindOf_lit {ρ : Ren} {xs : List Value} {k : Int} (h : RL ρ (kindA k) xs) : RL ρ [.int .i64 k] xs := by
  cases h with
  | cons _ x _ xs h t => cases h; exact .cons _ _ _ _ (.int ..) t

def kindOk (k : Int) : Prop := ∃ r1, Leads (call Tryd.prog E2 200 41 [.int .i64 k] ⟨[], 0⟩) r1 ∧ seenC 0 r1 (.tuple [.agg [.unk, .sbool (hasR k), .sbool (hasImm k), .sbool (hasOrd k), .sint .i64 (usesN k), .sbool (defB k), .sbool (endsB k), .sbool (hasOrd k), .unk], .sbool (isKind k)], none)
theorem kindRefs (k : Int) : refs (fun a => a.id < 0) (V.tuple [.agg [.unk, .sbool (hasR k), .sbool (hasImm k), .sbool (hasOrd k), .sint .i64 (usesN k), .sbool (defB k), .sbool (endsB k), .sbool (hasOrd k), .unk], .sbool (isKind k)]) := by
  exact ⟨⟨trivial, trivial, trivial, trivial, trivial, trivial, trivial, trivial, trivial, trivial⟩, trivial, trivial⟩
theorem kind_is1 : kindOk 1 := call_of (s := .ret) (by kernel_rfl) ⟨[], by kernel_rfl, fun _ => kindRefs _⟩
theorem kind_is2 : kindOk 2 := call_of (s := .ret) (by kernel_rfl) ⟨[], by kernel_rfl, fun _ => kindRefs _⟩
theorem kind_is3 : kindOk 3 := call_of (s := .ret) (by kernel_rfl) ⟨[], by kernel_rfl, fun _ => kindRefs _⟩
theorem kind_is4 : kindOk 4 := call_of (s := .ret) (by kernel_rfl) ⟨[], by kernel_rfl, fun _ => kindRefs _⟩
theorem kind_is5 : kindOk 5 := call_of (s := .ret) (by kernel_rfl) ⟨[], by kernel_rfl, fun _ => kindRefs _⟩
theorem kind_is6 : kindOk 6 := call_of (s := .ret) (by kernel_rfl) ⟨[], by kernel_rfl, fun _ => kindRefs _⟩
theorem kind_is7 : kindOk 7 := call_of (s := .ret) (by kernel_rfl) ⟨[], by kernel_rfl, fun _ => kindRefs _⟩
theorem kind_is8 : kindOk 8 := call_of (s := .ret) (by kernel_rfl) ⟨[], by kernel_rfl, fun _ => kindRefs _⟩
theorem kind_is9 : kindOk 9 := call_of (s := .ret) (by kernel_rfl) ⟨[], by kernel_rfl, fun _ => kindRefs _⟩
theorem kind_is10 : kindOk 10 := call_of (s := .ret) (by kernel_rfl) ⟨[], by kernel_rfl, fun _ => kindRefs _⟩
theorem kind_is11 : kindOk 11 := call_of (s := .ret) (by kernel_rfl) ⟨[], by kernel_rfl, fun _ => kindRefs _⟩
theorem kind_is12 : kindOk 12 := call_of (s := .ret) (by kernel_rfl) ⟨[], by kernel_rfl, fun _ => kindRefs _⟩
theorem kind_is13 : kindOk 13 := call_of (s := .ret) (by kernel_rfl) ⟨[], by kernel_rfl, fun _ => kindRefs _⟩
theorem kind_is14 : kindOk 14 := call_of (s := .ret) (by kernel_rfl) ⟨[], by kernel_rfl, fun _ => kindRefs _⟩
theorem kind_is15 : kindOk 15 := call_of (s := .ret) (by kernel_rfl) ⟨[], by kernel_rfl, fun _ => kindRefs _⟩
theorem kind_is16 : kindOk 16 := call_of (s := .ret) (by kernel_rfl) ⟨[], by kernel_rfl, fun _ => kindRefs _⟩
theorem kind_is17 : kindOk 17 := call_of (s := .ret) (by kernel_rfl) ⟨[], by kernel_rfl, fun _ => kindRefs _⟩
theorem kind_is18 : kindOk 18 := call_of (s := .ret) (by kernel_rfl) ⟨[], by kernel_rfl, fun _ => kindRefs _⟩

theorem kindOf_s : CallS Tryd.prog 41 kindA kindM kindZ := by
  refine CallS.of_call' E2_ok 200 ?_
  intro k r0 hl
  have hl := Leads.ret_inv hl
  subst hl
  by_cases hk : k < 1 ∨ 18 < k
  · refine ⟨_, fun _ _ h => h, _, kindOf_else k hk, ?_⟩
    obtain ⟨h1, h2, h3, h4, h5, h6, h7⟩ := kind_else hk
    simp only [h1, h2, h3, h4, h5, h6, h7]
    exact KC.spec ⟨[], by kernel_rfl, fun _ => ⟨⟨trivial, trivial, trivial, trivial, trivial, trivial, trivial, trivial, trivial, trivial⟩, trivial, trivial⟩⟩
  · have hk : k = 1 ∨ k = 2 ∨ k = 3 ∨ k = 4 ∨ k = 5 ∨ k = 6 ∨ k = 7 ∨ k = 8 ∨ k = 9 ∨ k = 10 ∨ k = 11 ∨ k = 12 ∨ k = 13 ∨ k = 14 ∨ k = 15 ∨ k = 16 ∨ k = 17 ∨ k = 18 := by omega
    rcases hk with rfl | rfl | rfl | rfl | rfl | rfl | rfl | rfl | rfl | rfl | rfl | rfl | rfl | rfl | rfl | rfl | rfl | rfl
    · exact ⟨_, fun _ _ h => kindOf_lit h, kind_is1⟩
    · exact ⟨_, fun _ _ h => kindOf_lit h, kind_is2⟩
    · exact ⟨_, fun _ _ h => kindOf_lit h, kind_is3⟩
    · exact ⟨_, fun _ _ h => kindOf_lit h, kind_is4⟩
    · exact ⟨_, fun _ _ h => kindOf_lit h, kind_is5⟩
    · exact ⟨_, fun _ _ h => kindOf_lit h, kind_is6⟩
    · exact ⟨_, fun _ _ h => kindOf_lit h, kind_is7⟩
    · exact ⟨_, fun _ _ h => kindOf_lit h, kind_is8⟩
    · exact ⟨_, fun _ _ h => kindOf_lit h, kind_is9⟩
    · exact ⟨_, fun _ _ h => kindOf_lit h, kind_is10⟩
    · exact ⟨_, fun _ _ h => kindOf_lit h, kind_is11⟩
    · exact ⟨_, fun _ _ h => kindOf_lit h, kind_is12⟩
    · exact ⟨_, fun _ _ h => kindOf_lit h, kind_is13⟩
    · exact ⟨_, fun _ _ h => kindOf_lit h, kind_is14⟩
    · exact ⟨_, fun _ _ h => kindOf_lit h, kind_is15⟩
    · exact ⟨_, fun _ _ h => kindOf_lit h, kind_is16⟩
    · exact ⟨_, fun _ _ h => kindOf_lit h, kind_is17⟩
    · exact ⟨_, fun _ _ h => kindOf_lit h, kind_is18⟩

theorem kindOf_sound : Sound kindA kindM kindZ (·.2) := by
  intro x
  refine ⟨⟨⟨trivial, trivial⟩, trivial⟩, ?_⟩
  intro r m hl hm
  have hl := Leads.ret_inv hl
  subst hl
  cases hm

def kindI (args : List V) (_ : List O) : Option (List Nat × Int) :=
  match args with
  | [v] => some ([], iv v)
  | _ => none

noncomputable def E4 : Env := E3.addExt 41 (framedC kindI kindA kindM kindZ)
theorem E4_ok : EnvOk Tryd.prog E4 := E3_ok.addExt (kindOf_s.ok kindOf_sound kindI)
end Go.Proofs.YtomeoihdhkmamaaDoor
