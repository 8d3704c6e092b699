/- What comes in, opened. -/
import Derived.Test.YtomeoihdhkmamaaDoorZxN
import Derived.ChangeArms
import Derived.OpenShut
set_option linter.unusedVariables false
set_option linter.unusedSimpArgs false
namespace Go.X
open Go.RowKit (Below)

/-- What a cell of plain data is. -/
inductive Sc where
  | bool
  | int (k : IntKind)

def Sc.is : Sc → Value → Prop
  | .bool, v => ∃ b, v = .bool b
  | .int k, v => ∃ n, v = .int k n

inductive AllIs : List Sc → List Value → Prop where
  | nil : AllIs [] []
  | cons (s : Sc) (v : Value) (ss : List Sc) (vs : List Value) (h : s.is v) (t : AllIs ss vs) : AllIs (s :: ss) (v :: vs)

theorem AllIs.append {a b : List Sc} {x y : List Value} (h : AllIs a x) (h' : AllIs b y) : AllIs (a ++ b) (x ++ y) := by
  induction h with
  | nil => exact h'
  | cons s v ss vs h t ih => exact .cons s v _ _ h ih

theorem AllIs.length {a : List Sc} {x : List Value} (h : AllIs a x) : x.length = a.length := by
  induction h with
  | nil => rfl
  | cons s v ss vs h t ih => simp [ih]

def rept (n : Nat) (l : List Sc) : List Sc :=
  match n with
  | 0 => []
  | n + 1 => l ++ rept n l

/-- The cells of a type of plain data, where its fields lie one behind the other. -/
def flatFs (g : TypeId → Option (List Sc)) : Nat → List Field → Option (List Sc)
  | _, [] => some []
  | o, f :: fs => match g f.type with
    | some l => bif Nat.beq f.offset o then (match flatFs g (o + l.length) fs with | some r => some (l ++ r) | none => none) else none
    | none => none

def flatT (P : Program) : Nat → TypeId → Option (List Sc)
  | 0, _ => none
  | d + 1, t => match P.underlying t with
    | some .bool => bif Nat.beq 1 (P.cellsOf t) then some [.bool] else none
    | some (.int k) => bif Nat.beq 1 (P.cellsOf t) then some [.int k] else none
    | some (.struct fs) => match flatFs (flatT P d) 0 fs.toList with
      | some l => bif Nat.beq l.length (P.cellsOf t) then some l else none
      | none => none
    | some (.array n e) => match flatT P d e with
      | some l => bif Nat.beq l.length (P.cellsOf e) && Nat.beq (n * l.length) (P.cellsOf t) then some (rept n l) else none
      | none => none
    | _ => none

section
variable {H : Type} {enc : TypeId × Value → H} {P : Program} {w : World} {base : Nat} {spare : Nat → Bool} {held : Bool}

theorem flatFs_spec {g : TypeId → Option (List Sc)} (cs : List Value) : ∀ (fs : List Field) (o : Nat) (l : List Sc), flatFs g o fs = some l → (∀ f ∈ fs, ∀ lf, g f.type = some lf → AllIs lf ((cs.drop f.offset).take (P.cellsOf f.type))) → (∀ f ∈ fs, ∀ lf, g f.type = some lf → lf.length = P.cellsOf f.type) →
    AllIs l ((cs.drop o).take l.length)
  | [], o, l, h, _, _ => by
    simp only [flatFs, Option.some.injEq] at h
    subst h
    simp only [List.length_nil, List.take_zero]
    exact .nil
  | f :: fs, o, l, h, hf, hl => by
    unfold flatFs at h
    split at h
    · rename_i lf hg
      cases hb : Nat.beq f.offset o with
      | false => rw [hb] at h; cases h
      | true =>
        rw [hb] at h
        simp only [cond_true] at h
        split at h
        · rename_i r hr
          cases h
          have ho := beq_eq hb
          have h1 := hf f (by simp) lf hg
          have h2 := hl f (by simp) lf hg
          have ih := flatFs_spec cs fs (o + lf.length) r hr (fun f hm => hf f (by simp [hm])) (fun f hm => hl f (by simp [hm]))
          rw [ho, ← h2] at h1
          have := h1.append ih
          rw [List.length_append, List.take_add, List.drop_drop]
          exact this
        · cases h
    · cases h

theorem rept_length (n : Nat) (l : List Sc) : (rept n l).length = n * l.length := by
  induction n with
  | zero => simp [rept]
  | succ n ih =>
    show (l ++ rept n l).length = _
    rw [List.length_append, ih, Nat.add_mul]
    omega

theorem flatT_len (P : Program) : ∀ (d : Nat) (t : TypeId) (l : List Sc), flatT P d t = some l → l.length = P.cellsOf t
  | 0, t, l, h => by cases h
  | d + 1, t, l, h => by
    unfold flatT at h
    split at h
    · obtain ⟨hb, h⟩ := bif_some h; subst h; exact beq_eq hb
    · obtain ⟨hb, h⟩ := bif_some h; subst h; exact beq_eq hb
    · split at h
      · rename_i l' hl
        obtain ⟨hb, h⟩ := bif_some h; subst h; exact beq_eq hb
      · cases h
    · rename_i n e hu
      split at h
      · rename_i l' hl
        obtain ⟨hb, h⟩ := bif_some h
        subst h
        rw [Bool.and_eq_true] at hb
        rw [← beq_eq hb.2]
        exact rept_length n l'
      · cases h
    · cases h

theorem flat_trod : ∀ (d fuel : Nat) (t : TypeId) (l : List Sc) (cs : List Value) (x : DataW H × List MemPlace), flatT P d t = some l → DataW.trod enc P w base spare held fuel t cs = some x → AllIs l cs
  | 0, fuel, t, l, cs, x, h, _ => by cases h
  | d + 1, fuel, t, l, cs, x, h, hx => by
    unfold flatT at h
    split at h
    · rename_i hu
      obtain ⟨_, h⟩ := bif_some h; subst h
      obtain ⟨b, rfl, _⟩ := DataW.trod_bool hu hx
      exact .cons _ _ _ _ ⟨b, rfl⟩ .nil
    · rename_i k hu
      obtain ⟨_, h⟩ := bif_some h; subst h
      obtain ⟨n, rfl, _⟩ := DataW.trod_int hu hx
      exact .cons _ _ _ _ ⟨n, rfl⟩ .nil
    · rename_i fs hu
      split at h
      · rename_i l' hl
        cases hb : Nat.beq l'.length (P.cellsOf t) with
        | false => rw [hb] at h; cases h
        | true =>
          rw [hb] at h
          cases h
          obtain ⟨xs, n, rfl, _, hlen, _, hf⟩ := DataW.trod_struct hu hx
          have hall := flatFs_spec (P := P) cs fs.toList 0 l hl (fun f hm lf hg => by
            obtain ⟨i, hi, he⟩ := List.getElem_of_mem hm
            have hfi : fs[i]? = some f := by
              rw [← Array.getElem?_toList, List.getElem?_eq_getElem hi, he]
            have h1 := hf i f hfi
            cases hxi : xs[i]? with
            | some y => rw [hxi] at h1; exact flat_trod d n f.type lf _ y hg h1
            | none =>
              exfalso
              rw [List.getElem?_eq_none_iff] at hxi
              have : i < fs.size := by simpa using hi
              rename_i hxl
              omega) (fun f hm lf hg => flatT_len P d f.type lf hg)
          rw [List.drop_zero, beq_eq hb, ← hlen, List.take_length] at hall
          exact hall
      · cases h
    · rename_i n e hu
      split at h
      · rename_i l' hl
        cases hb : Nat.beq l'.length (P.cellsOf e) && Nat.beq (n * l'.length) (P.cellsOf t) with
        | false => rw [hb] at h; cases h
        | true =>
          rw [hb] at h
          cases h
          rw [Bool.and_eq_true] at hb
          obtain ⟨xs, m, rfl, _, hlen, hxl, hf⟩ := DataW.trod_array hu hx
          have hs : l'.length = P.cellsOf e := beq_eq hb.1
          have key : ∀ q i, i + q = n → AllIs (rept q l') ((cs.drop (i * P.cellsOf e)).take (q * P.cellsOf e)) := by
            intro q
            induction q with
            | zero => intro i _; simp only [Nat.zero_mul, List.take_zero]; exact .nil
            | succ q ih =>
              intro i hi
              have h1 := hf i (by omega)
              have h2 : AllIs l' ((cs.drop (i * P.cellsOf e)).take (P.cellsOf e)) := by
                cases hxi : xs[i]? with
                | some y => rw [hxi] at h1; exact flat_trod d m e l' _ y hl h1
                | none =>
                  exfalso
                  rw [List.getElem?_eq_none_iff] at hxi
                  omega
              have h3 := ih (i + 1) (by omega)
              have := h2.append h3
              rw [show (q + 1) * P.cellsOf e = P.cellsOf e + q * P.cellsOf e by rw [Nat.add_mul]; omega, List.take_add, List.drop_drop, show i * P.cellsOf e + P.cellsOf e = (i + 1) * P.cellsOf e by rw [Nat.add_mul]; omega]
              exact this
          have hk := key n 0 (by omega)
          rw [Nat.zero_mul, List.drop_zero, show n * P.cellsOf e = cs.length by rw [hlen, ← beq_eq hb.2, hs], List.take_length] at hk
          exact hk
      · cases h
    · cases h

/-! ### Slices -/

/-- The cells of an element behind the other. -/
theorem rows_split (L : List Value) (o sz : Nat) (g : Nat → List Value) (ho : o ≤ L.length) : ∀ n, (∀ i, i < n → (g i).length = sz) → (∀ i j, i < n → j < sz → L[o + i * sz + j]? = (g i)[j]?) →
    L.drop o = (List.range n).flatMap g ++ L.drop (o + n * sz)
  | 0, _, _ => by simp
  | n + 1, hl, hg => by
    rw [rows_split L o sz g ho n (fun i hi => hl i (by omega)) (fun i j hi hj => hg i j (by omega) hj)]
    rw [List.range_succ, List.flatMap_append, List.append_assoc]
    congr 1
    simp only [List.flatMap_cons, List.flatMap_nil, List.append_nil]
    have h1 : (L.drop (o + n * sz)).take sz = g n := by
      apply List.ext_getElem?
      intro j
      rcases Nat.lt_or_ge j sz with hj | hj
      · rw [List.getElem?_take_of_lt hj, List.getElem?_drop]
        exact hg n j (by omega) hj
      · rw [List.getElem?_eq_none (by rw [List.length_take]; omega), List.getElem?_eq_none (by rw [hl n (by omega)]; exact hj)]
    have h2 := List.take_append_drop sz (L.drop (o + n * sz))
    rw [h1, List.drop_drop, show o + n * sz + sz = o + (n + 1) * sz by rw [Nat.add_mul]; omega] at h2
    exact h2.symm

theorem rowAt_le {fits : TypeId → Bool} {d : Nat} {e : TypeId} {count off n : Nat} (h : rowAt P fits d e count off n = true) : off ≤ count * P.cellsOf e := by
  cases d with
  | zero => cases h
  | succ d =>
    unfold rowAt at h
    simp only at h
    split at h
    · cases h
    · rename_i hs
      have hpos : 0 < P.cellsOf e := Nat.pos_of_ne_zero hs
      have hdm := Nat.div_add_mod off (P.cellsOf e)
      have hlt := Nat.mod_lt off hpos
      simp only [Bool.or_eq_true, Bool.and_eq_true, beq_iff_eq, decide_eq_true_eq] at h
      rcases h with ⟨⟨h1, h2⟩, _⟩ | ⟨h1, _⟩
      · have : off / P.cellsOf e * P.cellsOf e ≤ count * P.cellsOf e := Nat.mul_le_mul_right _ (by omega)
        rw [Nat.mul_comm] at hdm
        omega
      · have : (off / P.cellsOf e + 1) * P.cellsOf e ≤ count * P.cellsOf e := Nat.mul_le_mul_right _ (by omega)
        rw [Nat.add_mul, Nat.one_mul] at this
        rw [Nat.mul_comm] at hdm
        omega

theorem lies_le : ∀ (d : Nat) (e : TypeId) (count off : Nat) (u : TypeId) (n : Nat), liesAt P d e count off u n = true → off ≤ count * P.cellsOf e
  | 0, e, count, off, u, n, h => by cases h
  | d + 1, e, count, off, u, n, h => by
    unfold liesAt at h
    rw [Bool.or_eq_true] at h
    rcases h with h | h
    · exact rowAt_le h
    · split at h
      · exact lies_le d e count off _ _ h
      · cases h

/-- A slice that came in: nothing, or so many elements somewhere in a block. -/
def SliceIn (w : World) (v : Value) (ts : List Sc) (n c : Nat) : Prop :=
  (v = .slice none 0 0 ∧ n = 0 ∧ c = 0) ∨
  ∃ b pre g tl e fz, v = .slice (some ⟨b, pre.length, none⟩) n c ∧ n ≤ c ∧ w.heap[b]? = some (.cells (pre ++ ((List.range n).flatMap g ++ tl)).toArray e fz) ∧ ∀ k, k < n → AllIs ts (g k)

theorem open_slice {d fuel base' : Nat} {t e : TypeId} {ts : List Sc} {v : Value} {x : DataW H × List MemPlace} (hu : P.underlying t = some (.slice e)) (hf : flatT P d e = some ts)
    (hok : Cell.okWide P w .any base' t v) (h : DataW.trod enc P w base spare held fuel t v.cells.toList = some x) : ∃ n c, SliceIn w v ts n c ∧ n ≤ maxLen := by
  unfold Cell.okWide at hok
  rw [hu] at hok
  simp only at hok
  unfold Cell.ok at hok
  rw [hu] at hok
  rcases DataW.trod_slice hu h with ⟨h1, _⟩ | ⟨a, len, cap, elems, rest, m, rfl, h1, _, hb, hl, hm, hlen, hel, _, _⟩
  · have hv : v = .slice none 0 0 := by
      split at hok <;> simp_all [Value.cells]
    subst hv
    exact ⟨0, 0, .inl ⟨rfl, rfl, rfl⟩, Nat.zero_le _⟩
  · have hv : v = .slice (some a) len cap := by
      split at hok <;> simp_all [Value.cells]
    subst hv
    simp only at hok
    obtain ⟨_, _, _, hsp, row, cells, hsh, hli⟩ := hok
    have hle := lies_le _ _ _ _ _ _ hli
    unfold World.shape? at hsh
    split at hsh
    · rename_i c elem fz hh
      simp only [Option.some.injEq, Prod.mk.injEq] at hsh
      obtain ⟨rfl, rfl⟩ := hsh
      have hoff : a.off ≤ c.toList.length := by
        have := Nat.div_mul_le_self c.size (P.cellsOf elem)
        simp only [Array.length_toList]
        omega
      have hsz := flatT_len P d e ts hf
      have hcell : ∀ i, i < len → ∃ gi, (w.cells? base (a.add (i * P.cellsOf e)) (P.cellsOf e)) = some gi ∧ AllIs ts gi := by
        intro i hi
        have h2 := hel i hi
        cases hc : w.cells? base (a.add (i * P.cellsOf e)) (P.cellsOf e) with
        | none =>
          rw [hc] at h2
          have : elems[i]? = none := h2.symm
          rw [List.getElem?_eq_none_iff] at this
          omega
        | some gi =>
          rw [hc] at h2
          have hi' : i < elems.length := by omega
          rw [List.getElem?_eq_getElem hi'] at h2
          exact ⟨gi, rfl, flat_trod d m e ts gi _ hf h2⟩
      have hadd : ∀ k, a.add k = ⟨a.block, a.off + k, none⟩ := by
        intro k
        obtain ⟨ab, ao, as⟩ := a
        simp only at hsp
        subst hsp
        unfold Addr.add
        split
        · subst_vars; rfl
        · rfl
      let g : Nat → List Value := fun i => (w.cells? base (a.add (i * P.cellsOf e)) (P.cellsOf e)).getD []
      have hg : ∀ i, i < len → AllIs ts (g i) := by
        intro i hi
        obtain ⟨gi, h2, h3⟩ := hcell i hi
        show AllIs ts (Option.getD _ _)
        rw [h2]
        exact h3
      have hgl : ∀ i, i < len → (g i).length = P.cellsOf e := fun i hi => (hg i hi).length.trans hsz
      have hgj : ∀ i j, i < len → j < P.cellsOf e → c.toList[a.off + i * P.cellsOf e + j]? = (g i)[j]? := by
        intro i j hi hj
        obtain ⟨gi, h2, h3⟩ := hcell i hi
        show _ = (Option.getD _ _)[j]?
        rw [h2, Option.getD_some]
        unfold World.cells? at h2
        split at h2
        · have h4 := mapM_some_get h2 j j (by simp [hj])
          rw [hadd, ] at h4
          rw [← h4]
          have : (⟨a.block, a.off + i * P.cellsOf e, none⟩ : Addr).add j = ⟨a.block, a.off + i * P.cellsOf e + j, none⟩ := by
            unfold Addr.add; split
            · subst_vars; rfl
            · rfl
          rw [this]
          simp only [World.cell?, hh, Option.isSome_none, Bool.false_eq_true, if_false]
          simp
        · cases h2
      have hsplit := rows_split c.toList a.off (P.cellsOf e) g hoff len hgl hgj
      refine ⟨len, cap, .inr ⟨a.block, c.toList.take a.off, g, c.toList.drop (a.off + len * P.cellsOf e), elem, fz, ?_, hl, ?_, hg⟩, by omega⟩
      · have : a = ⟨a.block, a.off, none⟩ := by
          obtain ⟨ab, ao, as⟩ := a
          simp only at hsp
          subst hsp
          rfl
        rw [List.length_take, Nat.min_eq_left hoff]
        rw [← this]
      · rw [← hsplit, List.take_append_drop]
        exact hh
    · cases hsh
end

/-! ### What is only read -/

theorem AllIs.split : ∀ {a b : List Sc} {x : List Value}, AllIs (a ++ b) x → ∃ y z, x = y ++ z ∧ AllIs a y ∧ AllIs b z
  | [], b, x, h => ⟨[], x, rfl, .nil, h⟩
  | s :: a, b, x, h => by
    have h0 : AllIs (s :: (a ++ b)) x := h
    cases h0 with
    | cons _ v _ vs hv t =>
      obtain ⟨y, z, rfl, h1, h2⟩ := AllIs.split t
      exact ⟨v :: y, z, rfl, .cons _ _ _ _ hv h1, h2⟩

theorem AllIs.int_cons {k : IntKind} {ss : List Sc} {x : List Value} (h : AllIs (.int k :: ss) x) : ∃ n vs, x = .int k n :: vs ∧ AllIs ss vs := by
  cases h with
  | cons _ v _ vs hv t => obtain ⟨n, rfl⟩ := hv; exact ⟨n, vs, rfl, t⟩
theorem AllIs.bool_cons {ss : List Sc} {x : List Value} (h : AllIs (.bool :: ss) x) : ∃ b vs, x = .bool b :: vs ∧ AllIs ss vs := by
  cases h with
  | cons _ v _ vs hv t => obtain ⟨n, rfl⟩ := hv; exact ⟨n, vs, rfl, t⟩
theorem AllIs.nil_inv {x : List Value} (h : AllIs [] x) : x = [] := by cases h; rfl

def intV : Value → Int
  | .int _ n => n
  | _ => 0

theorem AllIs.rept_int {k : IntKind} : ∀ (n : Nat) {x : List Value}, AllIs (rept n [.int k]) x → ∃ f : Nat → Int, x = (List.range n).flatMap fun i => [.int k (f i)]
  | 0, x, h => ⟨fun _ => 0, h.nil_inv⟩
  | n + 1, x, h => by
    have h0 : AllIs (.int k :: rept n [.int k]) x := h
    obtain ⟨m, vs, rfl, h1⟩ := h0.int_cons
    obtain ⟨f, rfl⟩ := AllIs.rept_int n h1
    refine ⟨fun i => match i with | 0 => m | i + 1 => f i, ?_⟩
    rw [List.range_succ_eq_map, List.flatMap_cons, List.flatMap_map]
    rfl

theorem C.ints {ρ : Ren} (k : IntKind) (n : Nat) (f : Nat → Int) (vs : List V) (xs : List Value) (h : C ρ vs xs) : C ρ (.arr n 1 (fun i => [.sint k (f i)]) :: vs) ((List.range n).flatMap (fun i => [.int k (f i)]) ++ xs) :=
  .arr n 1 _ (fun i => [.int k (f i)]) vs xs (fun i _ => .one _ _ _ _ (.sint k (f i)) rfl .nil) (fun i _ => rfl) h

theorem C.sintCons {ρ : Ren} {k : IntKind} {n : Int} {vs : List V} {xs : List Value} (h : C ρ vs xs) : C ρ (.sint k n :: vs) (.int k n :: xs) := .one _ _ _ _ (.sint k n) rfl h
theorem C.sboolCons {ρ : Ren} {b : Bool} {vs : List V} {xs : List Value} (h : C ρ vs xs) : C ρ (.sbool b :: vs) (.bool b :: xs) := .one _ _ _ _ (.sbool b) rfl h

/-- Where the objects lie that are only read. -/
noncomputable def Ren.reads (bs : List (Option Nat × Nat)) : Ren :=
  ⟨fun i j => if j = 0 then (objL bs i).bind (·.1) else Option.none, fun i => match objL bs i with | some x => (0, x.2) | Option.none => (0, 0)⟩

def O.reads : O → Bool
  | .cells false _ _ _ => true
  | _ => false

theorem Rel.reads {w : World} {bs : List (Option Nat × Nat)} {objs : List O} (hl : bs.length = objs.length) (hro : objs.all O.reads = true) (hb : ∀ x ∈ bs, ∀ b, x.1 = some b → b < w.heap.size)
    (ho : ∀ i o, objL objs i = some o → ORel (Ren.reads bs) w i o) (low : Nat) : Rel (Ren.reads bs) ⟨objs, low⟩ w where
  objs := ho
  inj := fun id j id' j' o o' b h h' hj hj' hne hwr _ _ => by
    have := List.all_eq_true.1 hro o (objL_mem h)
    cases o with
    | cells wr e sp vs =>
      have hwr : wr = true := hwr
      subst hwr
      cases this
    | fam _ _ _ => cases this
    | dead => cases this
  dom := fun id j b h => by
    have h : (if j = 0 then (objL bs id).bind (·.1) else Option.none) = some b := h
    split at h
    · obtain ⟨x, h1, h2⟩ := Option.bind_eq_some_iff.1 h
      exact ⟨by rw [← hl]; exact objL_lt h1, hb x (objL_mem h1) b h2⟩
    · cases h

theorem SliceIn.open {w : World} {v : Value} {ts : List Sc} {n c : Nat} (h : SliceIn w v ts n c) :
    ∃ (x : Option Nat × Nat) (g : Nat → List Value), (∀ k, k < n → AllIs ts (g k)) ∧ (∀ b, x.1 = some b → b < w.heap.size) ∧
      ∀ (bs : List (Option Nat × Nat)) (i : Nat), objL bs i = some x → R (Ren.reads bs) (.slice ⟨i, 0, 0, 0, 0⟩ n (.known c) true) v ∧
        ∀ (e : TypeId) (f : Nat → List V), (∀ k, k < n → C (Ren.reads bs) (f k) (g k)) → ORel (Ren.reads bs) w i (.cells false e true [.arr n ts.length f]) := by
  rcases h with ⟨rfl, rfl, rfl⟩ | ⟨b, pre, g, tl, e', fz, rfl, hc, hh, hg⟩
  · refine ⟨(none, 0), fun _ => [], fun k hk => by omega, fun b hb => (by cases hb), fun bs i hi => ⟨?_, fun e f _ => .inl ⟨?_, ?_⟩⟩⟩
    · exact .empty _ none _ true (fun _ => rfl) (fun k hk => by cases hk; rfl)
    · show (if 0 = 0 then (objL bs i).bind (·.1) else Option.none) = none
      rw [hi]; rfl
    · exact C.arr 0 _ f (fun _ => []) [] [] (fun k hk => by omega) (fun k hk => by omega) .nil
  · have hb : b < w.heap.size := by
      rcases Nat.lt_or_ge b w.heap.size with h | h
      · exact h
      · rw [Array.getElem?_eq_none h] at hh; cases hh
    refine ⟨(some b, pre.length), g, hg, fun b' hb' => (by cases hb'; exact hb), fun bs i hi => ?_⟩
    have h1 : Ren.reads bs i 0 = some b := by
      show (if 0 = 0 then (objL bs i).bind (·.1) else Option.none) = some b
      rw [hi]; rfl
    have h2 : (Ren.reads bs).k i = (0, pre.length) := by
      show (match objL bs i with | some x => (0, x.2) | Option.none => (0, 0)) = _
      rw [hi]
    refine ⟨.sliceAt h1 hc rfl (by rw [h2]; simp), fun e f hf => .inr ⟨b, pre, (List.range n).flatMap g, tl, e', fz, h1, by rw [h2], ?_, hh, fun q => (by cases q), fun q => (by cases q)⟩⟩
    have := C.arr (ρ := Ren.reads bs) n ts.length f g [] [] hf (fun k hk => (hg k hk).length) .nil
    rw [List.append_nil] at this
    exact this

end Go.X
