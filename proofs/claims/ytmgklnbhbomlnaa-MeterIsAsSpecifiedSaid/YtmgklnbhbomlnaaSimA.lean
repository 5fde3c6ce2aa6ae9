/- The ideal values, what machine value represents which, and how that is kept while memory grows. A library of lemmas; no statement of a seat is proved here. -/
import Derived.WalkKit
import Derived.ProofKit
namespace Sim
/-- Equal by computing, but for the simplifier an equation like any other. -/
theorem nrfl.{u} {α : Sort u} {a b : α} (h : a = b) : a = b := h
open Go
set_option linter.unusedVariables false
set_option linter.unusedSimpArgs false
/-- Ideal values: slices by value (lits), mutable arrays by number (ref), pointers into immutable memory (vptr) or into a mutable object (ptr). -/
inductive PV where
  | bad
  | bool (b : Bool)
  | int (k : IntKind) (n : Int)
  | str (s : List UInt8)
  | nilp
  | ptr (id gen idx off : Nat)
  | vptr (cells : List PV) (off : Nat)
  | nils
  | lits (z : Nat) (l : List PV)
  | ref (id gen start len : Nat)
  | func (fn : Fn) (first captured : List PV)
  | nilf
  | iface (t : TypeId) (v : PV)
  | nili
  | agg (cells : List PV)
  | tuple (vs : List PV)
  | nilm
  | mref (id gen : Nat)
  | iter (id gen : Nat)
  deriving Inhabited

def PV.cells : PV → List PV
  | .agg cs => cs
  | .tuple _ => []
  | .bad => []
  | v => [v]

def PV.isCell : PV → Bool
  | .agg _ | .tuple _ | .bad => false
  | _ => true

/-- Where a mutable object lies. -/
structure Loc where
  blk : Nat
  off : Nat
  size : Nat
  cap : Nat
  gen : Nat

structure Ctx where
  imm : Nat → Nat → Option Value
  loc : Nat → Option Loc
  born : Nat → Prop
  B : Nat
  h : Nat → Option Obj
  os : Os
  out : Array (Nat × ByteArray)
  keep : Nat → Bool
  caller : Nat → Bool

structure Ctx.le (C C' : Ctx) : Prop where
  imm : ∀ b o v, C.imm b o = some v → C'.imm b o = some v
  old : ∀ b o, b < C.B → C'.imm b o = C.imm b o
  born : ∀ id, C.born id → C'.born id
  loc : ∀ id, C.born id → ∀ L', C'.loc id = some L' → ∃ L, C.loc id = some L ∧ (L' = L ∨ L.gen < L'.gen)
  B : C'.B = C.B
  h : C'.h = C.h
  os : C'.os = C.os
  out : C'.out = C.out
  keep : ∀ b, C.keep b = true → C'.keep b = true
  caller : C'.caller = C.caller

theorem Ctx.le.refl (C : Ctx) : C.le C := ⟨fun _ _ _ h => h, fun _ _ _ => rfl, fun _ h => h, fun _ _ L' h => ⟨L', h, .inl rfl⟩, rfl, rfl, rfl, rfl, fun _ h => h, rfl⟩
theorem Ctx.le.trans {A B C : Ctx} (h : A.le B) (g : B.le C) : A.le C where
  imm := fun b o v x => g.imm b o v (h.imm b o v x)
  old := fun b o x => (g.old b o (by rw [h.B]; exact x)).trans (h.old b o x)
  born := fun id x => g.born id (h.born id x)
  loc := fun id x L' hL => by
    obtain ⟨L1, h1, h2⟩ := g.loc id (h.born id x) L' hL
    obtain ⟨L0, h3, h4⟩ := h.loc id x L1 h1
    refine ⟨L0, h3, ?_⟩
    rcases h2 with rfl | h2
    · exact h4
    · rcases h4 with rfl | h4
      · exact .inr h2
      · exact .inr (by omega)
  B := g.B.trans h.B
  h := g.h.trans h.h
  os := g.os.trans h.os
  out := g.out.trans h.out
  keep := fun b x => g.keep b (h.keep b x)
  caller := g.caller.trans h.caller

/-- The machine's slice value of a part of a mutable object. -/
def refAt (L : Loc) (start len : Nat) (v : Value) : Prop :=
  ∃ a, v = .slice a len (L.cap - start) ∧ start + len ≤ L.cap ∧ (start < L.cap → a = some ⟨L.blk, L.off + start * L.size, none⟩)

/-- v represents p. -/
inductive VR (C : Ctx) : Value → PV → Prop where
  | bad (v : Value) : VR C v .bad
  | bool (b : Bool) : VR C (.bool b) (.bool b)
  | int (k : IntKind) (n : Int) : VR C (.int k n) (.int k n)
  | str (s : ByteArray) (l : List UInt8) (h : l = s.data.toList) (hm : l.length ≤ maxLen) : VR C (.string s) (.str l)
  | nilp : VR C (.pointer none) .nilp
  | ptr (v : Value) (id gen idx off : Nat) (hv : v.oneCell' = true) (hb : C.born id) (hg : ∀ L, C.loc id = some L → gen ≤ L.gen)
      (h : ∀ L, C.loc id = some L → gen = L.gen → v = .pointer (some ⟨L.blk, L.off + idx * L.size + off, none⟩)) : VR C v (.ptr id gen idx off)
  | vptr (b o off : Nat) (cells : List PV) (hc : ∀ c ∈ cells, c.isCell = true) (hi : ∀ j, j < cells.length → (C.imm b (o + j)).isSome = true)
      (h : ∀ j c, cells[j]? = some c → VR C ((C.imm b (o + j)).getD undef) c) : VR C (.pointer (some ⟨b, o + off, none⟩)) (.vptr cells off)
  | nils : VR C (.slice none 0 0) .nils
  | lits (b o size cap : Nat) (l : List PV) (hcap : l.length ≤ cap) (hmax : cap ≤ maxLen) (hsz : 0 < size) (hl : ∀ e ∈ l, e.cells.length = size ∧ ∀ c ∈ e.cells, c.isCell = true)
      (hi : ∀ i j, i < l.length → j < size → (C.imm b (o + i * size + j)).isSome = true)
      (h : ∀ i j e c, l[i]? = some e → e.cells[j]? = some c → VR C ((C.imm b (o + i * size + j)).getD undef) c) : VR C (.slice (some ⟨b, o, none⟩) l.length cap) (.lits size l)
  | lits0 (a : Option Addr) (cap z : Nat) : VR C (.slice a 0 cap) (.lits z [])
  | ref (v : Value) (id gen start len : Nat) (hv : v.oneCell' = true) (hb : C.born id) (hg : ∀ L, C.loc id = some L → gen ≤ L.gen)
      (h : ∀ L, C.loc id = some L → gen = L.gen → refAt L start len v) : VR C v (.ref id gen start len)
  | func (fn : Fn) (first captured : Array Value) (pf pc : List PV) (hf : first.size = pf.length) (hc : captured.size = pc.length)
      (h1 : ∀ i p, pf[i]? = some p → VR C (first.getD i undef) p) (h2 : ∀ i p, pc[i]? = some p → VR C (captured.getD i undef) p) : VR C (.func fn first captured) (.func fn pf pc)
  | nilf : VR C .nilFunc .nilf
  | iface (t : TypeId) (v : Value) (p : PV) (h : VR C v p) : VR C (.iface t v) (.iface t p)
  | nili : VR C .nilIface .nili
  | agg (cs : Array Value) (l : List PV) (hn : cs.size = l.length) (hc : ∀ c ∈ l, c.isCell = true) (h : ∀ i p, l[i]? = some p → VR C (cs.getD i undef) p) : VR C (.agg cs) (.agg l)
  | tuple (cs : Array Value) (l : List PV) (hn : cs.size = l.length) (h : ∀ i p, l[i]? = some p → VR C (cs.getD i undef) p) : VR C (.tuple cs) (.tuple l)
  | nilm : VR C (.map none) .nilm
  | mref (v : Value) (id gen : Nat) (hv : v.oneCell' = true) (hb : C.born id) (hg : ∀ L, C.loc id = some L → gen ≤ L.gen)
      (h : ∀ L, C.loc id = some L → gen = L.gen → v = .map (some L.blk)) : VR C v (.mref id gen)
  | iter (v : Value) (id gen : Nat) (hv : v.oneCell' = true) (hb : C.born id) (hg : ∀ L, C.loc id = some L → gen ≤ L.gen)
      (h : ∀ L, C.loc id = some L → gen = L.gen → v = .pointer (some ⟨L.blk, 0, none⟩)) : VR C v (.iter id gen)

theorem Ctx.le.isSome {C C' : Ctx} (h : C.le C') {b o : Nat} (x : (C.imm b o).isSome = true) : (C'.imm b o).isSome = true := by
  obtain ⟨v, hv⟩ := Option.isSome_iff_exists.1 x
  rw [h.imm _ _ _ hv]; rfl
theorem Ctx.le.getD {C C' : Ctx} (h : C.le C') {b o : Nat} (x : (C.imm b o).isSome = true) (d : Value) : (C'.imm b o).getD d = (C.imm b o).getD d := by
  obtain ⟨v, hv⟩ := Option.isSome_iff_exists.1 x
  rw [h.imm _ _ _ hv, hv]

section
variable {C C' : Ctx} (hle : C.le C') {id gen : Nat} (hb : C.born id) (hg : ∀ L, C.loc id = some L → gen ≤ L.gen)
include hle hb hg
theorem Ctx.le.genle : ∀ L', C'.loc id = some L' → gen ≤ L'.gen := fun L' hL' => by
  obtain ⟨L, h1, h2⟩ := hle.loc id hb L' hL'
  have := hg L h1
  rcases h2 with rfl | h2
  · exact this
  · omega
theorem Ctx.le.live {R : Loc → Prop} (h : ∀ L, C.loc id = some L → gen = L.gen → R L) : ∀ L', C'.loc id = some L' → gen = L'.gen → R L' := fun L' hL' he => by
  obtain ⟨L, h1, h2⟩ := hle.loc id hb L' hL'
  have := hg L h1
  rcases h2 with rfl | h2
  · exact h _ h1 he
  · omega
end
theorem VR.mono {C C' : Ctx} (hle : C.le C') {v : Value} {p : PV} (h : VR C v p) : VR C' v p := by
  induction h with
  | bad v => exact .bad v
  | bool b => exact .bool b
  | int k n => exact .int k n
  | str s l h hm => exact .str s l h hm
  | nilp => exact .nilp
  | ptr v id gen idx off hv hb hg h => exact .ptr v id gen idx off hv (hle.born _ hb) (hle.genle hb hg) (hle.live hb hg h)
  | vptr b o off cells hc hi h ih =>
    refine .vptr b o off cells hc (fun j hj => hle.isSome (hi j hj)) (fun j c hj => ?_)
    have hlt : j < cells.length := (List.getElem?_eq_some_iff.1 hj).1
    rw [hle.getD (hi j hlt)]
    exact ih j c hj
  | nils => exact .nils
  | lits b o size cap l hcap hmax hsz hl hi h ih =>
    refine .lits b o size cap l hcap hmax hsz hl (fun i j a b => hle.isSome (hi i j a b)) (fun i j e c he hc => ?_)
    have h1 : i < l.length := (List.getElem?_eq_some_iff.1 he).1
    have h2 : j < size := by
      have := (hl e (List.mem_of_getElem? he)).1
      have := (List.getElem?_eq_some_iff.1 hc).1
      omega
    rw [hle.getD (hi i j h1 h2)]
    exact ih i j e c he hc
  | lits0 a cap z => exact .lits0 a cap z
  | ref v id gen start len hv hb hg h => exact .ref v id gen start len hv (hle.born _ hb) (hle.genle hb hg) (hle.live hb hg h)
  | func fn first captured pf pc hf hc h1 h2 ih1 ih2 => exact .func fn first captured pf pc hf hc ih1 ih2
  | nilf => exact .nilf
  | iface t v p h ih => exact .iface t v p ih
  | nili => exact .nili
  | agg cs l hn hc h ih => exact .agg cs l hn hc ih
  | tuple cs l hn h ih => exact .tuple cs l hn ih
  | nilm => exact .nilm
  | mref v id gen hv hb hg h => exact .mref v id gen hv (hle.born _ hb) (hle.genle hb hg) (hle.live hb hg h)
  | iter v id gen hv hb hg h => exact .iter v id gen hv (hle.born _ hb) (hle.genle hb hg) (hle.live hb hg h)

theorem VR.oneCell {C : Ctx} {v : Value} {p : PV} (h : VR C v p) (hc : p.isCell = true) : v.oneCell' = true := by
  cases h <;> first | rfl | assumption | simp [PV.isCell] at hc

/-- The cells of a value and of what it represents. -/
theorem VR.cells {C : Ctx} {v : Value} {p : PV} (h : VR C v p) (hn : p.cells ≠ []) :
    v.cells.size = p.cells.length ∧ (∀ c ∈ p.cells, c.isCell = true) ∧ ∀ i c, p.cells[i]? = some c → VR C (v.cells.getD i undef) c := by
  have one : ∀ {v : Value} {p : PV}, VR C v p → p.isCell = true → p.cells = [p] → v.cells = #[v] →
      v.cells.size = p.cells.length ∧ (∀ c ∈ p.cells, c.isCell = true) ∧ ∀ i c, p.cells[i]? = some c → VR C (v.cells.getD i undef) c := by
    intro v p h h1 h2 h3
    rw [h2, h3]
    refine ⟨rfl, by simpa using h1, fun i c hi => ?_⟩
    cases i with
    | zero => simp at hi; subst hi; simpa using h
    | succ i => simp at hi
  have cv : ∀ {v : Value}, v.oneCell' = true → v.cells = #[v] := by intro v hv; cases v <;> first | rfl | simp [Value.oneCell'] at hv
  cases hp : p.isCell with
  | true =>
    refine one h hp ?_ (cv (h.oneCell hp))
    cases p <;> first | rfl | simp [PV.isCell] at hp
  | false =>
    cases h <;> first
      | (simp [PV.isCell] at hp; done)
      | (simp [PV.cells] at hn; done)
      | skip
    rename_i cs l hn' hc h
    exact ⟨by simpa [Value.cells, PV.cells] using hn', hc, by simpa [Value.cells, PV.cells] using h⟩
/-- What a value stands for does not hang on the rest of the context. -/
theorem VR.same {C C' : Ctx} (hi : C'.imm = C.imm) (hl : C'.loc = C.loc) (hb : C'.born = C.born) {v : Value} {p : PV} (h : VR C v p) : VR C' v p := by
  obtain ⟨imm, loc, born, B, hh, os, out, keep, caller⟩ := C'
  dsimp only at hi hl hb
  subst hi hl hb
  induction h with
  | bad v => exact .bad v
  | bool b => exact .bool b
  | int k n => exact .int k n
  | str s l h hm => exact .str s l h hm
  | nilp => exact .nilp
  | ptr v id g i o hv hb hg h => exact .ptr v id g i o hv hb hg h
  | vptr b o off cells hc hi h ih => exact .vptr b o off cells hc hi ih
  | nils => exact .nils
  | lits b o size cap l hcap hmax hsz hl hi h ih => exact .lits b o size cap l hcap hmax hsz hl hi ih
  | lits0 a cap z => exact .lits0 a cap z
  | ref v id g s n hv hb hg h => exact .ref v id g s n hv hb hg h
  | func fn first captured pf pc hf hc h1 h2 ih1 ih2 => exact .func fn first captured pf pc hf hc ih1 ih2
  | nilf => exact .nilf
  | iface t v p h ih => exact .iface t v p ih
  | nili => exact .nili
  | agg cs l hn hc h ih => exact .agg cs l hn hc ih
  | tuple cs l hn h ih => exact .tuple cs l hn ih
  | nilm => exact .nilm
  | mref v id g hv hb hg h => exact .mref v id g hv hb hg h
  | iter v id g hv hb hg h => exact .iter v id g hv hb hg h
end Sim
