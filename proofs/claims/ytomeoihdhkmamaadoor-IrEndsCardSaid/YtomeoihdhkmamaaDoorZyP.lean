/- Next's loop, where it is met. -/
import Derived.Test.YtomeoihdhkmamaaDoorZyO
set_option linter.unusedVariables false
set_option linter.unusedSimpArgs false
namespace Go.Proofs.YtomeoihdhkmamaaDoor
open Go.X
set_option maxRecDepth 100000

def bv : V → Bool
  | .bool b => b
  | .sbool b => b
  | _ => false
def fv : V → Nat → Int
  | .arr _ _ f => fun k => iv (match f k with | [v] => v | _ => .unk)
  | _ => fun _ => 0
def modeOf : V → Mode
  | .func (.func f) _ _ => bif Nat.beq f 47 then .passed else bif Nat.beq f 67 then .loaded else bif Nat.beq f 68 then .stored else .tried
  | _ => .off

noncomputable def toCor (g : Nat → V) : Cor :=
  ⟨fv (g 0), fv (g 1), iv (g 2), bv (g 3), bv (g 4), bv (g 5), bv (g 6), iv (g 7), bv (g 8), iv (g 9), iv (g 10), iv (g 11), iv (g 12), iv (g 13), iv (g 14), iv (g 15), iv (g 16), bv (g 17)⟩

noncomputable def toRn (n : Nat) (f g : Nat → List V) (cs : List V) : Rn :=
  ⟨n, fun k => toOp (f k), fv (.arr n 1 g), iv (getL cs 1), iv (getL cs 2), toCor (fun k => getL cs (k + 3)),
    ⟨iv (getL cs 22), iv (getL cs 23), iv (getL cs 24), iv (getL cs 25), bv (getL cs 26), iv (getL cs 27), bv (getL cs 28), iv (getL cs 29), iv (getL cs 30), iv (getL cs 31)⟩,
    bv (getL cs 33), bv (getL cs 34), iv (getL cs 35), bv (getL cs 36)⟩

noncomputable def rnAt (objs : List O) (v : V) : Option (List Nat × Mode × Rn) :=
  match v with
  | .ptr a => match objL objs a.id with
    | some (.cells _ _ _ cs) => match getL cs 0, getL cs 21 with
      | .slice o n _ _, .slice v _ _ _ => match objL objs o.id, objL objs v.id with
        | some (.cells _ _ _ [.arr _ _ f]), some (.cells _ _ _ [.arr _ _ g]) => some ([o.id, v.id, a.id], modeOf (getL cs 32), toRn n f g cs)
        | _, _ => none
      | _, _ => none
    | _ => none
  | _ => none

noncomputable def nxI (st : St) : Option (List Nat × Mode × Rn) := rnAt st.mem.objs (getL st.tm 0)

theorem rn_refs (m : Mode) (x : Rn) : refsOs (refA (x.objs m)) (x.objs m) := by
  refine ⟨⟨fun k _ => ⟨trivial, trivial, trivial, trivial, trivial, trivial, trivial⟩, trivial⟩, ⟨fun k _ => ⟨trivial, trivial⟩, trivial⟩, ?_, trivial⟩
  show refsL (refA (x.objs m)) (x.cells m 0 1 2)
  refine ⟨.inl ⟨_, rfl, rfl⟩, trivial, trivial, ?_⟩
  refine ⟨fun k _ => ⟨trivial, trivial⟩, fun k _ => ⟨trivial, trivial⟩, trivial, trivial, trivial, trivial, trivial, trivial, trivial, trivial, trivial, trivial, trivial, trivial, trivial, trivial, trivial, trivial, .inl ⟨_, rfl, rfl⟩, ?_⟩
  refine ⟨trivial, trivial, trivial, trivial, trivial, trivial, trivial, trivial, trivial, trivial, ?_, trivial, trivial, trivial, trivial, trivial⟩
  cases m
  · exact trivial
  all_goals exact ⟨⟨.inl ⟨_, rfl, rfl⟩, trivial⟩, trivial⟩

theorem nx_sound : Sound (fun _ => nxS) nxM nxZ (fun r => some r.2.mem) := by
  intro p
  refine ⟨⟨?_, rn_refs p.1 p.2⟩, ?_⟩
  · show refsL _ (slots 47 _)
    repeat' first | exact trivial | exact .inl ⟨_, rfl, rfl⟩ | refine And.intro ?_ ?_
  · intro r m hl hm
    obtain ⟨hn, hl⟩ := hl.need_inv
    have hl := (byMode_inv hl).ret_inv
    subst hl
    cases hm
    exact ⟨fun _ => trivial, fun _ => trivial, fun _ => trivial, trivial⟩

noncomputable def E8 : Env := E7.addSum 10 1 (framedL [2, 3] nxI (fun _ => nxS) nxM nxZ)
theorem E8_ok : EnvOk Tryd.prog E8 := E7_ok.addSum Tryd.func10 rfl (bodyIs.mk (id := 1) (by kernel_rfl)) (nx_sum.ok nx_sound nxI)
end Go.Proofs.YtomeoihdhkmamaaDoor
