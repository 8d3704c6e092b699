/- The arguments of chapter 16's laws, opened. -/
import Derived.Test.YtomeoihdhkmamaaDoorZyW
import Derived.Test.YtomeoihdhkmamaaDoorZxO
import Derived.WideShapes
set_option linter.unusedVariables false
set_option linter.unusedSimpArgs false
namespace Go.Proofs.YtomeoihdhkmamaaDoor
open Go.X Go.WideShapes
set_option maxRecDepth 100000

def opSc : List Sc := [.int .i64, .int .i64, .int .i64, .int .i64, .int .i64, .int .u64]
def gtSc : List Sc := [.int .u64, .bool, .int .i64]
def corSc : List Sc := rept 31 [.int .u64] ++ (rept 2 [.int .u64] ++ [.int .u64, .bool, .bool, .bool, .bool, .int .i64, .bool, .int .u64, .int .u64, .int .u64, .int .u64, .int .u64, .int .u64, .int .i64, .int .i64, .bool])
theorem flat42 : flatT Tryd.prog 5 42 = some opSc := by kernel_rfl
theorem flat44 : flatT Tryd.prog 5 44 = some gtSc := by kernel_rfl
theorem flat29 : flatT Tryd.prog 5 29 = some corSc := by kernel_rfl

def toOpV : List Value → Op6
  | [k, r, a, b, o, i] => ⟨intV k, intV r, intV a, intV b, intV o, intV i⟩
  | _ => ⟨0, 0, 0, 0, 0, 0⟩
def boolV : Value → Bool
  | .bool b => b
  | _ => false
def toGtV : List Value → Gt
  | [v, o, f] => ⟨intV v, boolV o, intV f⟩
  | _ => ⟨0, false, 0⟩

theorem op_cells {ρ : Ren} {x : List Value} (h : AllIs opSc x) : C ρ (toOpV x).cells x := by
  obtain ⟨a, _, rfl, q1⟩ := h.int_cons
  obtain ⟨b, _, rfl, q2⟩ := q1.int_cons
  obtain ⟨c, _, rfl, q3⟩ := q2.int_cons
  obtain ⟨d, _, rfl, q4⟩ := q3.int_cons
  obtain ⟨e, _, rfl, q5⟩ := q4.int_cons
  obtain ⟨f, _, rfl, q6⟩ := q5.int_cons
  have := q6.nil_inv
  subst this
  exact .sintCons (.sintCons (.sintCons (.sintCons (.sintCons (.sintCons .nil)))))

theorem gt_cells {ρ : Ren} {x : List Value} (h : AllIs gtSc x) : C ρ (toGtV x).cells x := by
  obtain ⟨a, _, rfl, q7⟩ := h.int_cons
  obtain ⟨b, _, rfl, q8⟩ := q7.bool_cons
  obtain ⟨c, _, rfl, q9⟩ := q8.int_cons
  have := q9.nil_inv
  subst this
  exact .sintCons (.sboolCons (.sintCons .nil))

theorem cor_cells {x : List Value} (h : AllIs corSc x) : ∃ c : Cor, ∀ ρ, C ρ c.cells x := by
  obtain ⟨x1, _, rfl, h1, q10⟩ := AllIs.split h
  obtain ⟨x2, _, rfl, h2, q11⟩ := AllIs.split q10
  obtain ⟨X, rfl⟩ := AllIs.rept_int 31 h1
  obtain ⟨SP, rfl⟩ := AllIs.rept_int 2 h2
  obtain ⟨pc, _, rfl, q12⟩ := q11.int_cons
  obtain ⟨n, _, rfl, q13⟩ := q12.bool_cons
  obtain ⟨z, _, rfl, q14⟩ := q13.bool_cons
  obtain ⟨c, _, rfl, q15⟩ := q14.bool_cons
  obtain ⟨v, _, rfl, q16⟩ := q15.bool_cons
  obtain ⟨el, _, rfl, q17⟩ := q16.int_cons
  obtain ⟨mask, _, rfl, q18⟩ := q17.bool_cons
  obtain ⟨spsr, _, rfl, q19⟩ := q18.int_cons
  obtain ⟨elr, _, rfl, q20⟩ := q19.int_cons
  obtain ⟨esr, _, rfl, q21⟩ := q20.int_cons
  obtain ⟨far, _, rfl, q22⟩ := q21.int_cons
  obtain ⟨vbar, _, rfl, q23⟩ := q22.int_cons
  obtain ⟨tpidr, _, rfl, q24⟩ := q23.int_cons
  obtain ⟨id, _, rfl, q25⟩ := q24.int_cons
  obtain ⟨wait, _, rfl, q26⟩ := q25.int_cons
  obtain ⟨event, _, rfl, q27⟩ := q26.bool_cons
  have := q27.nil_inv
  subst this
  exact ⟨⟨X, SP, pc, n, z, c, v, el, mask, spsr, elr, esr, far, vbar, tpidr, id, wait, event⟩, fun ρ => C.ints .u64 31 X _ _ (C.ints .u64 2 SP _ _ (.sintCons (.sboolCons (.sboolCons (.sboolCons (.sboolCons (.sintCons (.sboolCons (.sintCons (.sintCons (.sintCons (.sintCons (.sintCons (.sintCons (.sintCons (.sintCons (.sboolCons .nil)))))))))))))))))⟩

section
variable {H : Type} {enc : TypeId × Value → H} {W : World} {base : Nat}

theorem open_cor {v : Value} {d : DataW H} {p : List MemPlace} (hok : Value.okWide Tryd.prog W .any base 29 v) (h : DataW.Trod enc Tryd.prog W 0 (fun _ => true) true 29 v d p) : ∃ c : Cor, ∀ ρ, R ρ (.agg c.cells) v := by
  unfold Value.okWide at hok
  rw [Tryd.underlying29] at hok
  obtain ⟨cs, rfl, _⟩ := hok
  obtain ⟨fuel, hf⟩ := h
  obtain ⟨c, hc⟩ := cor_cells (flat_trod 5 fuel 29 corSc _ _ flat29 hf)
  refine ⟨c, fun ρ => ?_⟩
  have := R.agg (ρ := ρ) _ _ (hc ρ)
  simpa [Value.cells] using this

theorem open_ans {v : Value} {d : DataW H} {p : List MemPlace} (hok : Value.okWide Tryd.prog W .any base 30 v) (h : DataW.Trod enc Tryd.prog W 0 (fun _ => true) true 30 v d p) : ∃ n c, SliceIn W v gtSc n c := by
  obtain ⟨fuel, hf⟩ := h
  have hok' : Cell.okWide Tryd.prog W .any base 30 v := by
    unfold Value.okWide at hok
    rw [Tryd.underlying30] at hok
    exact hok
  obtain ⟨n, c, h1, _⟩ := open_slice Tryd.underlying30 flat44 hok' hf
  exact ⟨n, c, h1⟩

theorem open_blk {v : Value} {d : DataW H} {p : List MemPlace} (hok : Value.okWide Tryd.prog W .any base 25 v) (h : DataW.Trod enc Tryd.prog W 0 (fun _ => true) true 25 v d p) :
    ∃ pc words el s n c, v = .agg #[.int .u64 pc, .int .i64 words, .int .i64 el, s] ∧ SliceIn W s opSc n c ∧ s.oneCell' = true := by
  unfold Value.okWide at hok
  rw [Tryd.underlying25] at hok
  obtain ⟨cs, rfl, hsz, ts, hts, _, hcell⟩ := hok
  have hts' : Tryd.prog.cellTypes Tryd.prog.depth 25 = some [22, 3, 3, 23] := by kernel_rfl
  rw [hts'] at hts
  cases hts
  have hsz' : Tryd.prog.cellsOf 25 = 4 := by kernel_rfl
  rw [hsz'] at hsz
  obtain ⟨a, b, c, s, rfl⟩ : ∃ a b c s, cs = #[a, b, c, s] := by
    obtain ⟨l⟩ := cs
    match l, hsz with
    | [a, b, c, s], _ => exact ⟨a, b, c, s, rfl⟩
  obtain ⟨fuel, hf⟩ := h
  obtain ⟨xs, n, rfl, _, _, hxl, hfs⟩ := DataW.trod_struct Tryd.underlying25 hf
  have c22 : Tryd.prog.cellsOf 22 = 1 := by kernel_rfl
  have c3 : Tryd.prog.cellsOf 3 = 1 := by kernel_rfl
  have c23 : Tryd.prog.cellsOf 23 = 1 := by kernel_rfl
  have f0 := hfs 0 _ rfl
  have f1 := hfs 1 _ rfl
  have f2 := hfs 2 _ rfl
  have f3 := hfs 3 _ rfl
  have hx : ∀ i, i < 4 → ∃ y, xs[i]? = some y := fun i hi => ⟨xs[i]'(by rw [hxl]; exact hi), List.getElem?_eq_getElem _⟩
  obtain ⟨y0, e0⟩ := hx 0 (by decide)
  obtain ⟨y1, e1⟩ := hx 1 (by decide)
  obtain ⟨y2, e2⟩ := hx 2 (by decide)
  obtain ⟨y3, e3⟩ := hx 3 (by decide)
  rw [e0] at f0; rw [e1] at f1; rw [e2] at f2; rw [e3] at f3
  simp only [Value.cells, c22, c3, c23, List.drop_zero, List.drop_succ_cons, List.take_succ_cons, List.take_zero] at f0 f1 f2 f3
  obtain ⟨pc, h0, _⟩ := DataW.trod_int Tryd.underlying22 f0
  obtain ⟨words, h1, _⟩ := DataW.trod_int Tryd.underlying3 f1
  obtain ⟨el, h2, _⟩ := DataW.trod_int Tryd.underlying3 f2
  cases h0; cases h1; cases h2
  obtain ⟨u, hu, hc3⟩ := hcell 3 s rfl
  cases hu
  have hs : Value.okWide Tryd.prog W .any base 23 s := by
    unfold Value.okWide
    rw [Tryd.underlying23]
    exact hc3
  obtain ⟨sa, sl, sc, rfl⟩ := okWide_slice Tryd.underlying23 hs
  obtain ⟨m, cp, hin, _⟩ := open_slice Tryd.underlying23 flat42 hc3 f3
  exact ⟨pc, words, el, _, m, cp, rfl, hin, rfl⟩
end
end Go.Proofs.YtomeoihdhkmamaaDoor
