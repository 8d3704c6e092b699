/- Reckon of chapter 5, as chapter 16 uses it: its contract. -/
import Derived.Test.YtomeoihdhkmamaaDoorZyK
set_option linter.unusedVariables false
set_option linter.unusedSimpArgs false
namespace Go.Proofs.YtomeoihdhkmamaaDoor
open Go.X
set_option maxRecDepth 100000

def low6 (b : Int) : Int := bitsI .and .u64 b 63
def ror6 (b : Int) : Int := bitsI .and .u64 (IntKind.u64.wrap (IntKind.i64.wrap (0 - IntKind.i64.wrap (low6 b)))) 63

/-- What is reckoned. -/
def reckonI (r a b : Int) : Int :=
  match r with
  | 1 => IntKind.u64.wrap (a + b)
  | 2 => IntKind.u64.wrap (a - b)
  | 3 => bitsI .and .u64 a b
  | 4 => bitsI .or .u64 a b
  | 5 => bitsI .xor .u64 a b
  | 6 => IntKind.u64.wrap (a * b)
  | 7 => bif b == 0 then 0 else IntKind.u64.wrap (a.tdiv b)
  | 8 => bif IntKind.i64.wrap b == 0 then 0 else bif IntKind.i64.wrap b == -1 then IntKind.u64.wrap (0 - a) else IntKind.u64.wrap (IntKind.i64.wrap ((IntKind.i64.wrap a).tdiv (IntKind.i64.wrap b)))
  | 9 => IntKind.u64.wrap (a * 2 ^ min (low6 b).toNat IntKind.u64.bits)
  | 10 => a.fdiv (2 ^ min (low6 b).toNat IntKind.u64.bits)
  | 11 => IntKind.u64.wrap ((IntKind.i64.wrap a).fdiv (2 ^ min (low6 b).toNat IntKind.i64.bits))
  | 12 => bitsI .or .u64 (IntKind.u64.wrap (a * 2 ^ min (ror6 b).toNat IntKind.u64.bits)) (a.fdiv (2 ^ min (IntKind.u64.wrap (64 - ror6 b)).toNat IntKind.u64.bits))
  | 13 => bif a == b then 1 else 0
  | 14 => bif decide (a < b) then 1 else 0
  | _ => bif decide (IntKind.i64.wrap a < IntKind.i64.wrap b) then 1 else 0

theorem wrap_u64_nonneg (n : Int) : 0 ≤ IntKind.u64.wrap n := by rw [IntKind.wrap_u64]; omega
theorem bits_nonneg (op : BinOp) (a b : Int) : 0 ≤ bitsI op .u64 a b := by
  unfold bitsI
  split <;> exact wrap_u64_nonneg _

structure ReckX where
  (r a b : Int)
def reckA (x : ReckX) : List V := [.sint .i64 x.r, .sint .u64 x.a, .sint .u64 x.b]
def reckM (_ : ReckX) : List O := []
def reckV (r a b : Int) : V × Option Mem := (.tuple [.sint .u64 (reckonI r a b), .int .i64 0], none)
def reckZ (x : ReckX) : T (V × Option Mem) := .need (1 ≤ x.r ∧ x.r ≤ 15) (.ret (reckV x.r x.a x.b))
noncomputable def reckCall (r a b : Int) : T (V × Option Mem) := call Tryd.prog E6 200 46 [.int .i64 r, .sint .u64 a, .sint .u64 b] ⟨[], 0⟩
def reckIs (r a b : Int) : Prop := ∃ r1, Leads (reckCall r a b) r1 ∧ seenC 0 r1 (reckV r a b)

theorem reckRefs (n : Int) : refs (fun a => a.id < 0) (V.tuple [.sint .u64 n, .int .i64 0]) := ⟨trivial, trivial, trivial⟩
theorem reck1 (a b : Int) : reckIs 1 a b := call_of (s := .ret) (by kernel_rfl) (KC.mk [] (by kernel_rfl) fun _ => reckRefs _)
theorem reck2 (a b : Int) : reckIs 2 a b := call_of (s := .ret) (by kernel_rfl) (KC.mk [] (by kernel_rfl) fun _ => reckRefs _)
theorem reck3 (a b : Int) : reckIs 3 a b := call_of (s := .ret) (by kernel_rfl) (KC.mk [] (by kernel_rfl) fun _ => reckRefs _)
theorem reck4 (a b : Int) : reckIs 4 a b := call_of (s := .ret) (by kernel_rfl) (KC.mk [] (by kernel_rfl) fun _ => reckRefs _)
theorem reck5 (a b : Int) : reckIs 5 a b := call_of (s := .ret) (by kernel_rfl) (KC.mk [] (by kernel_rfl) fun _ => reckRefs _)
theorem reck6 (a b : Int) : reckIs 6 a b := call_of (s := .ret) (by kernel_rfl) (KC.mk [] (by kernel_rfl) fun _ => reckRefs _)
theorem reck7 (a b : Int) : reckIs 7 a b := by
  refine call_of (s := .ite (b == 0) .ret (.need (b ≠ 0) .ret)) (by kernel_rfl) ?_
  simp only [Sk.Holds]
  refine ⟨fun q => ?_, fun q => ⟨by simpa using q, ?_⟩⟩
  · rw [show reckV 7 a b = (.tuple [.sint .u64 (bif b == 0 then 0 else IntKind.u64.wrap (a.tdiv b)), .int .i64 0], none) from rfl, q]
    exact KC.mk [] (by kernel_rfl) fun _ => reckRefs _
  · rw [show reckV 7 a b = (.tuple [.sint .u64 (bif b == 0 then 0 else IntKind.u64.wrap (a.tdiv b)), .int .i64 0], none) from rfl, q]
    exact KC.mk [] (by kernel_rfl) fun _ => reckRefs _
theorem reck8 (a b : Int) : reckIs 8 a b := by
  have e : reckV 8 a b = (.tuple [.sint .u64 (bif IntKind.i64.wrap b == 0 then 0 else bif IntKind.i64.wrap b == -1 then IntKind.u64.wrap (0 - a) else IntKind.u64.wrap (IntKind.i64.wrap ((IntKind.i64.wrap a).tdiv (IntKind.i64.wrap b)))), .int .i64 0], none) := rfl
  refine call_of (s := .ite (IntKind.i64.wrap b == 0) .ret (.ite (IntKind.i64.wrap b == -1) .ret (.need (IntKind.i64.wrap b ≠ 0) .ret))) (by kernel_rfl) ?_
  simp only [Sk.Holds]
  refine ⟨fun q => ?_, fun q => ⟨fun q2 => ?_, fun q2 => ⟨by simpa using q, ?_⟩⟩⟩
  · rw [e, q]; exact KC.mk [] (by kernel_rfl) fun _ => reckRefs _
  · rw [e, q, q2]; exact KC.mk [] (by kernel_rfl) fun _ => reckRefs _
  · rw [e, q, q2]; exact KC.mk [] (by kernel_rfl) fun _ => reckRefs _
theorem reck9 (a b : Int) : reckIs 9 a b := by
  refine call_of (s := .need (0 ≤ bitsI .and .u64 b 63) .ret) (by kernel_rfl) ?_
  exact ⟨bits_nonneg _ _ _, KC.mk [] (by kernel_rfl) fun _ => reckRefs _⟩
theorem reck10 (a b : Int) : reckIs 10 a b := by
  refine call_of (s := .need (0 ≤ bitsI .and .u64 b 63) .ret) (by kernel_rfl) ?_
  exact ⟨bits_nonneg _ _ _, KC.mk [] (by kernel_rfl) fun _ => reckRefs _⟩
theorem reck11 (a b : Int) : reckIs 11 a b := by
  refine call_of (s := .need (0 ≤ bitsI .and .u64 b 63) .ret) (by kernel_rfl) ?_
  exact ⟨bits_nonneg _ _ _, KC.mk [] (by kernel_rfl) fun _ => reckRefs _⟩
theorem reck12 (a b : Int) : reckIs 12 a b := by
  refine call_of (s := .need (0 ≤ ror6 b) (.need (0 ≤ IntKind.u64.wrap (64 - ror6 b)) .ret)) (by kernel_rfl) ?_
  exact ⟨bits_nonneg _ _ _, wrap_u64_nonneg _, KC.mk [] (by kernel_rfl) fun _ => reckRefs _⟩
theorem reck13 (a b : Int) : reckIs 13 a b := by
  have e : reckV 13 a b = (.tuple [.sint .u64 (bif a == b then 1 else 0), .int .i64 0], none) := rfl
  refine call_of (s := .ite (a == b) .ret .ret) (by kernel_rfl) ?_
  refine ⟨fun q => ?_, fun q => ?_⟩
  · rw [e, q]; exact KC.mk [] (by kernel_rfl) fun _ => reckRefs _
  · rw [e, q]; exact KC.mk [] (by kernel_rfl) fun _ => reckRefs _
theorem reck14 (a b : Int) : reckIs 14 a b := by
  have e : reckV 14 a b = (.tuple [.sint .u64 (bif decide (a < b) then 1 else 0), .int .i64 0], none) := rfl
  refine call_of (s := .ite (decide (a < b)) .ret .ret) (by kernel_rfl) ?_
  refine ⟨fun q => ?_, fun q => ?_⟩
  · rw [e, q]; exact KC.mk [] (by kernel_rfl) fun _ => reckRefs _
  · rw [e, q]; exact KC.mk [] (by kernel_rfl) fun _ => reckRefs _
theorem reck15 (a b : Int) : reckIs 15 a b := by
  have e : reckV 15 a b = (.tuple [.sint .u64 (bif decide (IntKind.i64.wrap a < IntKind.i64.wrap b) then 1 else 0), .int .i64 0], none) := rfl
  refine call_of (s := .ite (decide (IntKind.i64.wrap a < IntKind.i64.wrap b)) .ret .ret) (by kernel_rfl) ?_
  refine ⟨fun q => ?_, fun q => ?_⟩
  · rw [e, q]; exact KC.mk [] (by kernel_rfl) fun _ => reckRefs _
  · rw [e, q]; exact KC.mk [] (by kernel_rfl) fun _ => reckRefs _

theorem RL.litInt {ρ : Ren} {k : IntKind} {n : Int} {vs : List V} {xs : List Value} (h : RL ρ (.sint k n :: vs) xs) : RL ρ (.int k n :: vs) xs := by
  cases h with
  | cons _ x _ xs h t => cases h; exact .cons _ _ _ _ (.int ..) t

theorem reck_s : CallS Tryd.prog 46 reckA reckM reckZ := by
  refine CallS.of_call' E6_ok 200 ?_
  rintro ⟨r, a, b⟩ r0 hl
  obtain ⟨hn, hl⟩ := hl.need_inv
  have hl := hl.ret_inv
  subst hl
  simp only at hn
  have hk : r = 1 ∨ r = 2 ∨ r = 3 ∨ r = 4 ∨ r = 5 ∨ r = 6 ∨ r = 7 ∨ r = 8 ∨ r = 9 ∨ r = 10 ∨ r = 11 ∨ r = 12 ∨ r = 13 ∨ r = 14 ∨ r = 15 := by omega
  rcases hk with rfl | rfl | rfl | rfl | rfl | rfl | rfl | rfl | rfl | rfl | rfl | rfl | rfl | rfl | rfl
  · exact ⟨_, fun _ _ h => RL.litInt h, reck1 a b⟩
  · exact ⟨_, fun _ _ h => RL.litInt h, reck2 a b⟩
  · exact ⟨_, fun _ _ h => RL.litInt h, reck3 a b⟩
  · exact ⟨_, fun _ _ h => RL.litInt h, reck4 a b⟩
  · exact ⟨_, fun _ _ h => RL.litInt h, reck5 a b⟩
  · exact ⟨_, fun _ _ h => RL.litInt h, reck6 a b⟩
  · exact ⟨_, fun _ _ h => RL.litInt h, reck7 a b⟩
  · exact ⟨_, fun _ _ h => RL.litInt h, reck8 a b⟩
  · exact ⟨_, fun _ _ h => RL.litInt h, reck9 a b⟩
  · exact ⟨_, fun _ _ h => RL.litInt h, reck10 a b⟩
  · exact ⟨_, fun _ _ h => RL.litInt h, reck11 a b⟩
  · exact ⟨_, fun _ _ h => RL.litInt h, reck12 a b⟩
  · exact ⟨_, fun _ _ h => RL.litInt h, reck13 a b⟩
  · exact ⟨_, fun _ _ h => RL.litInt h, reck14 a b⟩
  · exact ⟨_, fun _ _ h => RL.litInt h, reck15 a b⟩

theorem reck_sound : Sound reckA reckM reckZ (·.2) := by
  intro x
  refine ⟨⟨⟨trivial, trivial, trivial, trivial⟩, trivial⟩, ?_⟩
  intro r m hl hm
  obtain ⟨hn, hl⟩ := hl.need_inv
  have hl := hl.ret_inv
  subst hl
  cases hm

def reckInst (args : List V) (_ : List O) : Option (List Nat × ReckX) :=
  match args with
  | [r, a, b] => some ([], ⟨iv r, iv a, iv b⟩)
  | _ => none

noncomputable def E7 : Env := E6.addExt 46 (framedC reckInst reckA reckM reckZ)
theorem E7_ok : EnvOk Tryd.prog E7 := E6_ok.addExt (reck_s.ok reck_sound reckInst)
end Go.Proofs.YtomeoihdhkmamaaDoor
