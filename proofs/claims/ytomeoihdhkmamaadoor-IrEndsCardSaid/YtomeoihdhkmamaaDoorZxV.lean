/- Renaming, weakening. -/
import Derived.Test.YtomeoihdhkmamaaDoorZxK
set_option linter.unusedVariables false
set_option linter.unusedSimpArgs false
namespace Go.X

def upA (s : Nat → Nat) (a : A) : A := { a with id := s a.id }

mutual
def up (s : Nat → Nat) : V → V
  | .ptr a => .ptr (upA s a)
  | .sptr c a => .sptr c (upA s a)
  | .slice a n c sy => .slice (upA s a) n c sy
  | .map r => .map (upA s r)
  | .func fn fi ca => .func fn (upL s fi) (upL s ca)
  | .iface t v => .iface t (up s v)
  | .agg cs => .agg (upL s cs)
  | .tuple vs => .tuple (upL s vs)
  | .arr n sz f => .arr n sz (fun k => upL s (f k))
  | .unk => .unk
  | .unks n => .unks n
  | .bool b => .bool b
  | .sbool b => .sbool b
  | .int k n => .int k n
  | .sint k n => .sint k n
  | .str b sy => .str b sy
  | .nil => .nil
  | .nilSlice => .nilSlice
  | .nilMap => .nilMap
  | .nilFunc => .nilFunc
  | .nilIface => .nilIface
  | .held x => .held x
def upL (s : Nat → Nat) : List V → List V
  | [] => []
  | v :: vs => up s v :: upL s vs
end
/-! ### Renaming -/

def Maps (s : Nat → Nat) (ρ1 ρ2 : Ren) : Prop := ∀ i j b, ρ1 i j = some b → ρ2 (s i) j = some b ∧ ρ2.k (s i) = ρ1.k i

mutual
theorem R.up {s : Nat → Nat} {ρ ρ' : Ren} (hs : Maps s ρ ρ') : ∀ {v : V} {x : Value}, R ρ v x → R ρ' (up s v) x
  | _, _, .unk x => .unk x
  | _, _, .bool b => .bool b
  | _, _, .sbool b => .sbool b
  | _, _, .int k n => .int k n
  | _, _, .sint k n => .sint k n
  | _, _, .str s sy => .str s sy
  | _, _, .ptr a b h => R.ptrAt (a := upA s a) (hs _ _ _ h).1 (by show (ρ'.k (s a.id)).2 + (a.o + a.i * a.s) = _; rw [(hs _ _ _ h).2])
  | _, _, .nil => .nil
  | _, _, .sptr c a b h => R.sptrAt (a := upA s a) (fun hc => ⟨(hs _ _ _ (h hc)).1, by show (ρ'.k (s a.id)).2 + (a.o + a.i * a.s) = _; rw [(hs _ _ _ (h hc)).2]⟩)
  | _, _, .slice a n c' c sy b h hc he => R.sliceAt (a := upA s a) (hs _ _ _ h).1 hc (by
      have := (hs _ _ _ h).2
      cases c with
      | known n => exact he
      | rest e => unfold CapIs at *; show _ = (ρ'.k (s a.id)).1; rw [this]; exact he) (by show (ρ'.k (s a.id)).2 + (a.o + a.i * a.s) = _; rw [(hs _ _ _ h).2])
  | _, _, .empty a x c sy hx he => R.empty (upA s a) x c sy hx he
  | _, _, .nilSlice => .nilSlice
  | _, _, .map r b h => R.map (upA s r) b (hs _ _ _ h).1
  | _, _, .nilMap => .nilMap
  | _, _, .func fn f c f' c' h1 h2 => R.func fn (upL s f) (upL s c) f' c' (RL.up hs h1) (RL.up hs h2)
  | _, _, .nilFunc => .nilFunc
  | _, _, .iface t v x h => R.iface t (Go.X.up s v) x (R.up hs h)
  | _, _, .nilIface => .nilIface
  | _, _, .agg cs xs h => R.agg (upL s cs) xs (C.up hs h)
  | _, _, .tuple vs xs h => R.tuple (upL s vs) xs (RL.up hs h)
  | _, _, .held x => .held x
theorem RL.up {s : Nat → Nat} {ρ ρ' : Ren} (hs : Maps s ρ ρ') : ∀ {vs : List V} {xs : List Value}, RL ρ vs xs → RL ρ' (upL s vs) xs
  | _, _, .nil => .nil
  | _, _, .cons v x vs xs h t => RL.cons (Go.X.up s v) x (upL s vs) xs (R.up hs h) (RL.up hs t)
theorem C.up {s : Nat → Nat} {ρ ρ' : Ren} (hs : Maps s ρ ρ') : ∀ {vs : List V} {xs : List Value}, C ρ vs xs → C ρ' (upL s vs) xs
  | _, _, .nil => .nil
  | _, _, .one v x vs xs h h1 t => C.one (Go.X.up s v) x (upL s vs) xs (R.up hs h) h1 (C.up hs t)
  | _, _, .unks n us vs xs hn h1 t => C.unks n us (upL s vs) xs hn h1 (C.up hs t)
  | _, _, .arr n sz f g vs xs h hl t => C.arr n sz (fun k => upL s (f k)) g (upL s vs) xs (fun k hk => C.up hs (h k hk)) hl (C.up hs t)
end

mutual
def refs (P : A → Prop) : V → Prop
  | .ptr a => P a
  | .sptr _ a => P a
  | .slice a _ _ _ => P a
  | .map a => P a
  | .func _ fi ca => refsL P fi ∧ refsL P ca
  | .iface _ v => refs P v
  | .agg cs => refsL P cs
  | .tuple vs => refsL P vs
  | .arr n _ f => ∀ k, k < n → refsL P (f k)
  | .unk => True
  | .unks _ => True
  | .bool _ => True
  | .sbool _ => True
  | .int _ _ => True
  | .sint _ _ => True
  | .str _ _ => True
  | .nil => True
  | .nilSlice => True
  | .nilMap => True
  | .nilFunc => True
  | .nilIface => True
  | .held _ => True
def refsL (P : A → Prop) : List V → Prop
  | [] => True
  | v :: vs => refs P v ∧ refsL P vs
end

mutual
theorem refs_true {P : A → Prop} (h : ∀ a, P a) : ∀ v, refs P v
  | .ptr a => h a
  | .sptr _ a => h a
  | .slice a _ _ _ => h a
  | .map a => h a
  | .func _ fi ca => ⟨refsL_true h fi, refsL_true h ca⟩
  | .iface _ v => refs_true h v
  | .agg cs => refsL_true h cs
  | .tuple vs => refsL_true h vs
  | .arr n _ f => fun k _ => refsL_true h (f k)
  | .unk => trivial
  | .unks _ => trivial
  | .bool _ => trivial
  | .sbool _ => trivial
  | .int _ _ => trivial
  | .sint _ _ => trivial
  | .str _ _ => trivial
  | .nil => trivial
  | .nilSlice => trivial
  | .nilMap => trivial
  | .nilFunc => trivial
  | .nilIface => trivial
  | .held _ => trivial
theorem refsL_true {P : A → Prop} (h : ∀ a, P a) : ∀ vs, refsL P vs
  | [] => trivial
  | v :: vs => ⟨refs_true h v, refsL_true h vs⟩
end

/-- Where P holds, ρs knows what ρ knows under the other name. -/
def Known (s : Nat → Nat) (P : A → Prop) (ρ ρs : Ren) : Prop := ∀ a b, P a → ρ (s a.id) a.j = some b → ρs a.id a.j = some b ∧ ρs.k a.id = ρ.k (s a.id)

mutual
theorem R.down {s : Nat → Nat} {P : A → Prop} {ρ ρs : Ren} (hs : Known s P ρ ρs) : ∀ (v : V) {x : Value}, refs P v → R ρ (up s v) x → R ρs v x
  | .ptr a, x, hp, h => by
    have h0 : R ρ (.ptr (upA s a)) x := h
    clear h
    cases h0 with
    | ptr _ b hb => exact .ptrAt (hs a b hp hb).1 (by rw [(hs a b hp hb).2]; rfl)
  | .sptr c a, x, hp, h => by
    have h0 : R ρ (.sptr c (upA s a)) x := h
    clear h
    cases h0 with
    | sptr _ _ b hb => exact .sptrAt (fun q => ⟨(hs a b hp (hb q)).1, by rw [(hs a b hp (hb q)).2]; rfl⟩)
  | .slice a n c sy, x, hp, h => by
    have h0 : R ρ (.slice (upA s a) n c sy) x := h
    clear h
    cases h0 with
    | slice _ _ c' _ _ b hb hc he =>
      refine .sliceAt (hs a b hp hb).1 hc ?_ (by rw [(hs a b hp hb).2]; rfl)
      have := (hs a b hp hb).2
      cases c with
      | known n => exact he
      | rest e => unfold CapIs at *; rw [this]; exact he
    | empty _ x _ _ hx he => exact .empty a x c sy hx he
  | .map a, x, hp, h => by
    have h0 : R ρ (.map (upA s a)) x := h
    clear h
    cases h0 with
    | map _ b hb => exact .map a b (hs a b hp hb).1
  | .func fn fi ca, x, hp, h => by
    have h0 : R ρ (.func fn (upL s fi) (upL s ca)) x := h
    clear h
    cases h0 with
    | func _ _ _ f' c' h1 h2 => exact .func fn fi ca f' c' (RL.down hs fi hp.1 h1) (RL.down hs ca hp.2 h2)
  | .iface t v, x, hp, h => by
    have h0 : R ρ (.iface t (up s v)) x := h
    clear h
    cases h0 with
    | iface _ _ x g => exact .iface t v x (R.down hs v hp g)
  | .agg cs, x, hp, h => by
    have h0 : R ρ (.agg (upL s cs)) x := h
    clear h
    cases h0 with
    | agg _ xs g => exact .agg cs xs (C.down hs cs hp g)
  | .tuple vs, x, hp, h => by
    have h0 : R ρ (.tuple (upL s vs)) x := h
    clear h
    cases h0 with
    | tuple _ xs g => exact .tuple vs xs (RL.down hs vs hp g)
  | .arr n sz f, x, hp, h => by
    have h0 : R ρ (.arr n sz (fun k => upL s (f k))) x := h
    clear h
    cases h0
  | .unk, x, hp, h => .unk x
  | .unks n, x, hp, h => by
    have h0 : R ρ (.unks n) x := h
    clear h
    cases h0
  | .bool b, x, hp, h => by
    have h0 : R ρ (.bool b) x := h
    clear h
    cases h0; exact .bool b
  | .sbool b, x, hp, h => by
    have h0 : R ρ (.sbool b) x := h
    clear h
    cases h0; exact .sbool b
  | .int k n, x, hp, h => by
    have h0 : R ρ (.int k n) x := h
    clear h
    cases h0; exact .int k n
  | .sint k n, x, hp, h => by
    have h0 : R ρ (.sint k n) x := h
    clear h
    cases h0; exact .sint k n
  | .str b sy, x, hp, h => by
    have h0 : R ρ (.str b sy) x := h
    clear h
    cases h0; exact .str b sy
  | .nil, x, hp, h => by
    have h0 : R ρ .nil x := h
    clear h
    cases h0; exact .nil
  | .nilSlice, x, hp, h => by
    have h0 : R ρ .nilSlice x := h
    clear h
    cases h0; exact .nilSlice
  | .nilMap, x, hp, h => by
    have h0 : R ρ .nilMap x := h
    clear h
    cases h0; exact .nilMap
  | .nilFunc, x, hp, h => by
    have h0 : R ρ .nilFunc x := h
    clear h
    cases h0; exact .nilFunc
  | .nilIface, x, hp, h => by
    have h0 : R ρ .nilIface x := h
    clear h
    cases h0; exact .nilIface
  | .held y, x, hp, h => by
    have h0 : R ρ (.held y) x := h
    clear h
    cases h0; exact .held y
theorem RL.down {s : Nat → Nat} {P : A → Prop} {ρ ρs : Ren} (hs : Known s P ρ ρs) : ∀ (vs : List V) {xs : List Value}, refsL P vs → RL ρ (upL s vs) xs → RL ρs vs xs
  | [], xs, hp, h => by
    have h0 : RL ρ [] xs := h
    clear h
    cases h0; exact .nil
  | v :: vs, xs, hp, h => by
    have h0 : RL ρ (up s v :: upL s vs) xs := h
    clear h
    cases h0 with
    | cons _ x _ xs g t => exact .cons v x vs xs (R.down hs v hp.1 g) (RL.down hs vs hp.2 t)
theorem C.down {s : Nat → Nat} {P : A → Prop} {ρ ρs : Ren} (hs : Known s P ρ ρs) : ∀ (vs : List V) {xs : List Value}, refsL P vs → C ρ (upL s vs) xs → C ρs vs xs
  | [], xs, hp, h => by
    have h0 : C ρ [] xs := h
    clear h
    cases h0; exact .nil
  | .unks n :: vs, xs, hp, h => by
    have h0 : C ρ (.unks n :: upL s vs) xs := h
    clear h
    cases h0 with
    | unks _ us _ xs hn h1 t => exact .unks n us vs xs hn h1 (C.down hs vs hp.2 t)
    | one _ x _ xs g h1 t => cases g
  | .arr n sz f :: vs, xs, hp, h => by
    have h0 : C ρ (.arr n sz (fun k => upL s (f k)) :: upL s vs) xs := h
    clear h
    cases h0 with
    | arr _ _ _ g _ xs hh hl t => exact .arr n sz f g vs xs (fun k hk => C.down hs (f k) (hp.1 k hk) (hh k hk)) hl (C.down hs vs hp.2 t)
    | one _ x _ xs g h1 t => cases g
  | v :: vs, xs, hp, h => by
    have h0 : C ρ (up s v :: upL s vs) xs := h
    clear h
    generalize hu : up s v = u at h0
    cases h0 with
    | one _ x _ xs g h1 t => subst hu; exact .one v x vs xs (R.down hs v hp.1 g) h1 (C.down hs vs hp.2 t)
    | unks n us _ xs hn h1 t =>
      cases v <;> cases hu
      exact .unks n us vs xs hn h1 (C.down hs vs hp.2 t)
    | arr n sz f g _ xs hh hl t =>
      cases v <;> cases hu
      rename_i f
      exact .arr n sz f g vs xs (fun k hk => C.down hs (f k) (hp.1 k hk) (hh k hk)) hl (C.down hs vs hp.2 t)
end

/-! ### Weakening -/

def unkOf : V → V
  | .unks n => .unks n
  | .arr n s f => .arr n s f
  | _ => .unk

def capZ : Cap → Bool
  | .known n => Nat.beq n 0
  | .rest _ => true

mutual
/-- A value told with no more than a pattern asks. -/
def weak : V → V → V
  | .unk, v => unkOf v
  | .sint _ _, v => match v with | .int k m => .sint k m | v => v
  | .sbool _, v => match v with | .bool c => .sbool c | v => v
  | .str _ b, v => match v with | .str s b' => .str s (b || b') | v => v
  | .sptr _ a, v => match v with | .ptr a' => .sptr false a' | .nil => .sptr true a | v => v
  | .slice a _ c sy, v => match v with
    | .slice a' n' c' sy' => .slice a' n' c' (sy || sy')
    | .nilSlice => bif sy && capZ c then .slice a 0 c true else .nilSlice
    | v => v
  | .agg ps, v => match v with | .agg cs => .agg (weakL ps cs) | v => v
  | .tuple ps, v => match v with | .tuple cs => .tuple (weakL ps cs) | v => v
  | .iface _ p, v => match v with | .iface t u => .iface t (weak p u) | v => v
  | .func _ ps qs, v => match v with | .func fn fi ca => .func fn (weakL ps fi) (weakL qs ca) | v => v
  | .arr _ _ f, v => match v with | .arr n s g => .arr n s (fun k => weakL (f k) (g k)) | v => v
  | .unks _, v => v
  | .bool _, v => v
  | .int _ _, v => v
  | .ptr _, v => v
  | .nil, v => v
  | .nilSlice, v => v
  | .map _, v => v
  | .nilMap, v => v
  | .nilFunc, v => v
  | .nilIface, v => v
  | .held _, v => v
def weakL : List V → List V → List V
  | [], vs => vs
  | p :: ps, vs => match vs with
    | [] => []
    | v :: vs => weak p v :: weakL ps vs
end

theorem weakL_nil (ps : List V) : weakL ps [] = [] := by cases ps <;> rfl
theorem weak_unks (p : V) (n : Nat) : weak p (.unks n) = .unks n := by cases p <;> rfl

end Go.X
