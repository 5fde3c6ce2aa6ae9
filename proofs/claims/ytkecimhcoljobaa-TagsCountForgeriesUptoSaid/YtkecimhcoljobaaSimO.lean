/- A call by values. -/
import Derived.Test.YtkecimhcoljobaaSimN
namespace Sim
open Go
set_option linter.unusedVariables false
set_option linter.unusedSimpArgs false

/-- No memory in it. -/
def PV.scal1 : PV → Bool
  | .bool _ | .int _ _ | .str _ | .nilp | .nils | .nilf | .nili | .nilm => true
  | _ => false
def PV.scal : PV → Bool
  | .agg l => l.all PV.scal1
  | .tuple l => l.all PV.scal1
  | p => p.scal1

theorem VR.scal1 {C C' : Ctx} {v : Value} {p : PV} (h : VR C v p) (hs : p.scal1 = true) : VR C' v p := by
  cases h <;> first | (simp [PV.scal1] at hs; done) | (constructor; done) | (constructor <;> assumption)
theorem VR.scal {C C' : Ctx} {v : Value} {p : PV} (h : VR C v p) (hs : p.scal = true) : VR C' v p := by
  cases h with
  | agg cs l hn hc h => exact .agg cs l hn hc fun i p hi => (h i p hi).scal1 ((List.all_eq_true.1 hs) p (List.mem_of_getElem? hi))
  | tuple cs l hn h => exact .tuple cs l hn fun i p hi => (h i p hi).scal1 ((List.all_eq_true.1 hs) p (List.mem_of_getElem? hi))
  | bad v => simp [PV.scal, PV.scal1] at hs
  | bool b => exact .bool b
  | int k n => exact .int k n
  | str s l h hm => exact .str s l h hm
  | nilp => exact .nilp
  | nils => exact .nils
  | nilf => exact .nilf
  | nili => exact .nili
  | nilm => exact .nilm
  | _ => simp [PV.scal, PV.scal1] at hs

/-- Behind a call that changes nothing that was there. -/
theorem Inv.after {C : Ctx} {st : Store} {w w' : World} (hi : Inv C st w) (ho : w'.os = w.os ∧ w'.output = w.output) (hold : ∀ b, b < w.heap.size → w'.heap[b]? = w.heap[b]?) (hsz : w.heap.size ≤ w'.heap.size) :
    C.le { C with imm := sealed C.imm w.heap.size w' } ∧ Inv { C with imm := sealed C.imm w.heap.size w' } st w' := by
  have himm : ∀ b o v, C.imm b o = some v → sealed C.imm w.heap.size w' b o = some v := fun b o v hv => by
    have : b < w.heap.size := by
      rcases Nat.lt_or_ge b w.heap.size with h | h
      · exact h
      · rw [hi.immLt h] at hv; cases hv
    simp [sealed, this, hv]
  have hle : C.le { C with imm := sealed C.imm w.heap.size w' } :=
    ⟨himm, fun b o hb => by have := hi.hB; simp [sealed, show b < w.heap.size by omega], fun _ h => h, fun id _ L' hL => ⟨L', hL, .inl rfl⟩, rfl, rfl, rfl, rfl⟩
  refine ⟨hle, ?_⟩
  constructor
  · exact ho.1.trans hi.os
  · exact ho.2.trans hi.out
  · exact Nat.le_trans hi.hB hsz
  · intro b hb
    have hb' : b < C.B := hb
    rw [hold b (by have := hi.hB; omega)]; exact hi.old b hb'
  · intro b o v hv
    have hv' : sealed C.imm w.heap.size w' b o = some v := hv
    unfold sealed at hv'
    split at hv'
    · rename_i hlt
      rw [cell?_heap (hold b hlt)]; exact hi.imm b o v hv'
    · exact hv'
  · exact hi.next
  · exact hi.none_
  · intro id o ho
    obtain ⟨hb, L, hL, hat⟩ := hi.obj id o ho
    refine ⟨hb, L, hL, hat.mono hle (fun hc o ho => ?_) (fun hc => hold _ (hat.own hc).2.2)⟩
    have := (hat.own hc).2.2
    show sealed C.imm w.heap.size w' L.blk o = none
    simp [sealed, this, ho]
  · exact hi.sep

/-! All lengths are lengths of a machine. -/
mutual
def PV.small : PV → Prop
  | .str l => l.length ≤ 9223372036854775807
  | .lits _ l => l.length ≤ 9223372036854775807 ∧ smallL l
  | .vptr cs _ => smallL cs
  | .agg l => smallL l
  | .tuple l => smallL l
  | .iface _ v => v.small
  | _ => True
def smallL : List PV → Prop
  | [] => True
  | p :: l => p.small ∧ smallL l
end
theorem smallL_of {l : List PV} (h : ∀ p ∈ l, p.small) : smallL l := by
  induction l with
  | nil => trivial
  | cons a l ih => exact ⟨h a (by simp), ih fun p hp => h p (by simp [hp])⟩
theorem smallL_iff {l : List PV} : smallL l ↔ ∀ p ∈ l, p.small := by
  refine ⟨fun h => ?_, smallL_of⟩
  induction l with
  | nil => simp
  | cons a l ih =>
    intro p hp
    rcases List.mem_cons.1 hp with rfl | hp
    · exact h.1
    · exact ih h.2 p hp
theorem smallL_map {α : Type} {f : α → PV} {l : List α} : smallL (l.map f) ↔ ∀ x ∈ l, (f x).small := by
  rw [smallL_iff]; simp

theorem VR.small {C : Ctx} {v : Value} {p : PV} (h : VR C v p) : p.small := by
  have ml : maxLen = 9223372036854775807 := rfl
  induction h with
  | str s l h hm => rw [ml] at hm; exact hm
  | vptr b o off cells hc hi h ih => exact smallL_of (fun c hm => (List.mem_iff_getElem?.1 hm).elim fun j hj => ih j c hj)
  | lits b o size cap l hcap hmax hsz hl hi h ih =>
    rw [ml] at hmax
    refine ⟨by omega, smallL_of fun e he => ?_⟩
    obtain ⟨i, hi'⟩ := List.mem_iff_getElem?.1 he
    have hc : ∀ c ∈ e.cells, c.small := fun c hm => by
      obtain ⟨j, hj⟩ := List.mem_iff_getElem?.1 hm
      exact ih i j e c hi' hj
    cases e <;> first
      | trivial
      | (exact hc _ (List.mem_singleton.2 rfl))
      | (exact smallL_of hc)
      | skip
    all_goals (have := (hl _ he).1; simp only [PV.cells, List.length_nil] at this; omega)
  | lits0 a cap z => exact ⟨by simp, trivial⟩
  | iface t v p h ih => exact ih
  | agg cs l hn hc h ih => exact smallL_of (fun c hm => (List.mem_iff_getElem?.1 hm).elim fun j hj => ih j c hj)
  | tuple cs l hn h ih => exact smallL_of (fun c hm => (List.mem_iff_getElem?.1 hm).elim fun j hj => ih j c hj)
  | _ => trivial

/-- A table's entry for a function that is known by values. -/
def valT (spec : List PV → Option PV) (args : List PV) (st : Store) : Option (PV × Store) :=
  if pursL args = true then (spec args).map fun r => (r, st)
  else (rdAll st args).bind fun as => (spec as).bind fun r => if r.scal = true then some (r, st) else none

theorem valT_sound {P : Program} {f : FuncId} {spec : List PV → Option PV} (hspec : ∀ args r, spec args = some r → VC P f args r) {args : List PV} {st st' : Store} {r : PV} (h : valT spec args st = some (r, st')) :
    st' = st ∧ IXC P f args st fun r' st'' => r' = r ∧ st'' = st' := by
  unfold valT at h
  split at h
  · rename_i hp
    simp only [Option.map_eq_some_iff, Prod.mk.injEq] at h
    obtain ⟨q, hq, rfl, rfl⟩ := h
    obtain ⟨hen, hc⟩ := hspec _ _ hq
    refine ⟨rfl, hen, fun C w vals hi hv => ?_⟩
    refine Calls.mono (hc C.imm w vals hi.imm ⟨hv.1, fun i p hi' => (hv.2 i p hi').pureMono (fun _ _ _ h => h) (pursL_mem hp p (List.mem_of_getElem? hi'))⟩) fun e w' he => ?_
    obtain ⟨v, rfl, ho, hold, hsz, hvr⟩ := he
    obtain ⟨h1, h2⟩ := hi.after ho hold hsz
    exact ⟨v, _, q, st, rfl, h1, h2, hvr.ofBase (fun _ _ _ h => h), rfl, rfl⟩
  · simp only [Option.bind_eq_some_iff] at h
    obtain ⟨as, has, q, hq, h⟩ := h
    split at h
    · rename_i hsc
      simp only [Option.some.injEq, Prod.mk.injEq] at h
      obtain ⟨rfl, rfl⟩ := h
      obtain ⟨hen, hc⟩ := hspec _ _ hq
      refine ⟨rfl, hen, fun C w vals hi hv => ?_⟩
      obtain ⟨hl, hget⟩ := rdAll_get has
      refine Calls.mono (hc (fun b o => w.cell? ⟨b, o, none⟩) w vals (fun _ _ _ h => h) ⟨by rw [hv.1, hl], fun i p hi' => ?_⟩) fun e w' he => ?_
      · have hlt : i < args.length := by have := (List.getElem?_eq_some_iff.1 hi').1; omega
        exact (hget i _ p (List.getElem?_eq_getElem hlt) hi').sound hi (fun b o u h => hi.imm b o u h) (fun _ _ _ _ _ _ h => h) (hv.2 i _ (List.getElem?_eq_getElem hlt))
      · obtain ⟨v, rfl, ho, hold, hsz, hvr⟩ := he
        obtain ⟨h1, h2⟩ := hi.after ho hold hsz
        exact ⟨v, _, q, st, rfl, h1, h2, hvr.scal hsc, rfl, rfl⟩
    · cases h

/-- A table out of a list. -/
abbrev Entries := List (Nat × (List PV → Option PV))
def tabOf (l : Entries) : Tab := fun f args st => match l.find? (fun e => e.1 == f) with | some e => valT e.2 args st | none => none
def quietOf (l : Entries) : Nat → Bool := fun f => l.any fun e => e.1 == f

/-- All entries are contracts. -/
def EntriesOK (P : Program) (l : Entries) : Prop := ∀ e ∈ l, ∀ args r, e.2 args = some r → VC P e.1 args r

theorem tabOf_ok {P : Program} {l : Entries} (h : EntriesOK P l) {muts quiet frz : Nat → Bool} {num : Nat → Nat} : TabOK ⟨P, tabOf l, muts, quiet, frz, num⟩ := by
  intro f args st r st' ht
  simp only [tabOf] at ht
  split at ht
  · rename_i e he
    have hm := List.mem_of_find?_eq_some he
    have hf := List.find?_some he
    have hf : e.1 = f := by simpa using hf
    subst hf
    exact (valT_sound (h e hm) ht).2
  · cases ht
theorem tabOf_quiet {P : Program} {l : Entries} (h : EntriesOK P l) {muts quiet frz : Nat → Bool} {num : Nat → Nat} : QuietOK ⟨P, tabOf l, muts, quiet, frz, num⟩ := by
  intro f args st r st' _ ht
  simp only [tabOf] at ht
  split at ht
  · rename_i e he
    refine ⟨(valT_sound (h e (List.mem_of_find?_eq_some he)) ht).1, fun hp st2 => ?_⟩
    simp only [tabOf, he]
    unfold valT at ht ⊢
    rw [if_pos hp] at ht ⊢
    simp only [Option.map_eq_some_iff, Prod.mk.injEq] at ht ⊢
    obtain ⟨q, h1, h2, h3⟩ := ht
    exact ⟨q, h1, h2, trivial⟩
  · cases ht

/-- The number of the array that is laid by for a place. -/
def numOf (frz : List Nat) (d : Nat) : Nat := if frz.contains (100000 + d) then 1 else if frz.contains (200000 + d) then 2 else if frz.contains (300000 + d) then 3 else 0
/-- The configuration of a body whose callees are these. -/
def cfg (P : Program) (l : Entries) (muts : List Nat) (frz : List Nat := []) : Cfg := ⟨P, tabOf l, fun d => muts.contains d, fun _ => true, fun d => frz.contains d, numOf frz⟩

theorem VC.of_small {P : Program} {f : FuncId} {args : List PV} {r : PV} (h : smallL args → VC P f args r) (hen : enterOK P f) : VC P f args r := by
  refine ⟨hen, fun imm w vals himm hv => ?_⟩
  have hs : smallL args := smallL_of fun p hp => by
    obtain ⟨i, hi⟩ := List.mem_iff_getElem?.1 hp
    exact (hv.2 i p hi).small
  exact (h hs).2 imm w vals himm hv

/-- **A function's contract by values, from the ideal run of its body over the contracts of its callees.** -/
theorem vc_of' {P : Program} (hmix : P.follows .mixedOrders = true) {l : Entries} (hl : EntriesOK P l) (muts : List Nat) (frz : List Nat) {f : FuncId} {fn : Func} {c : Code} (hf : P.funcs[f]? = some fn) (hb : fn.body = some c)
    (hname : (fn.name == "runtime.NumGoroutine") = false) {args : List PV} {N : Nat} (hN : fn.ntmps = N) (hn : args.length ≤ N) {rs : List ResultVar} (hrs : fn.results.toList = rs) {r : PV} (n : Nat)
    (h : smallL args → run (cfg P l muts frz) N (endQ P rs (fun p st => DR st p r)) c [] ⟨env0 args, stR n⟩) : VC P f args r := by
  subst hN; subst hrs
  exact VC.of_small (fun hs => vc_of_run (X := cfg P l muts frz) (tabOf_ok hl) (tabOf_quiet hl) hmix hf hb hname hn (stR_ghost n) (h hs)) ⟨fn, hf, by simp [hb], hname⟩
end Sim
