/- Contracts of functions: from the ideal run of a body; by values; in a table. -/
import Derived.Test.YtkecimhcoljobaaSimM
namespace Sim
open Go
set_option linter.unusedVariables false
set_option linter.unusedSimpArgs false

/-- A function's contract by values. -/
def VC (P : Program) (f : FuncId) (args : List PV) (r : PV) : Prop :=
  enterOK P f ∧ ∀ (imm : Nat → Nat → Option Value) (w : World) (vals : Array Value), (∀ b o u, imm b o = some u → w.cell? ⟨b, o, none⟩ = some u) → IXC.VRs (base imm w) vals args →
    Calls P f vals w fun e w' => ∃ v, e = .returned v ∧ (w'.os = w.os ∧ w'.output = w.output) ∧ (∀ b, b < w.heap.size → w'.heap[b]? = w.heap[b]?) ∧ w.heap.size ≤ w'.heap.size ∧ VR (base (sealed imm w.heap.size w') w') v r

/-! The results. -/
def iresOne (P : Program) (s : IState) : ResultVar → Option PV
  | .tmp t => some (s.env t)
  | .cell a t => (tvLd P t).bind fun (z, ag) => loadP s.st z ag (s.env a)
def iresAll (P : Program) (s : IState) : List ResultVar → Option (List PV)
  | [] => some []
  | r :: l => (iresOne P s r).bind fun p => (iresAll P s l).map fun ps => p :: ps
def ires (P : Program) (rs : List ResultVar) (s : IState) : Option PV :=
  match iresAll P s rs with
  | some [p] => some p
  | some ps => some (.tuple ps)
  | none => none

section
variable {X : Cfg} {N : Nat} {C : Ctx} {s : IState} {a : Act} {w : World}

theorem run_asAddr {P : Program} {x : Addr} : (asAddr (.pointer (some x))).run P w = .ok x w := rfl

theorem load_of {P : Program} {st : Store} (hi : Inv C st w) {v : Value} {px q : PV} (hx : VR C v px) {t : TypeId} {z : Nat} {ag : Bool} (ht : tvLd P t = some (z, ag)) (hq : loadP st z ag px = some q) :
    ∃ u x, v = .pointer (some x) ∧ (loadVar t x).run P w = .ok u w ∧ VR C u q := by
  have hp : ∃ cells off, Points C w v cells off ∧ pickP cells off z ag = some q := by
    unfold loadP at hq
    split at hq
    · exact ⟨_, _, points_vptr hi hx, hq⟩
    · rename_i id gen idx off
      simp only [Option.bind_eq_some_iff] at hq
      obtain ⟨⟨z', es⟩, hes, hq⟩ := hq
      have hne : (nth es idx).cells ≠ [] := by
        intro e0
        obtain ⟨_, hpos, rfl, rfl⟩ := tvLd_parts ht
        simp only [pickP, e0] at hq
        split at hq
        · split at hq
          · rename_i hle; simp at hle; omega
          · cases hq
        · simp at hq
      exact ⟨_, _, points_ptr hi hx hes (nth_lt hne), hq⟩
    · cases hq
  obtain ⟨cells, off, hp, hq⟩ := hp
  obtain ⟨u, hu, hu'⟩ := load_sound hp ht hq
  obtain ⟨b, o, rfl, _⟩ := hp
  exact ⟨u, _, rfl, by simpa [Instr.loadAt, Instr.sureAddr] using hu, hu'⟩

def resOne (tmps : Array Value) : ResultVar → Sem Value
  | .tmp t => pure (tmps.getD t undef)
  | .cell a t => do loadVar t (← asAddr (tmps.getD a undef))
theorem results_eq (fn : Func) (tmps : Array Value) : results fn tmps = (do let vs ← fn.results.mapM (resOne tmps); pure (if h : vs.size = 1 then vs[0] else .tuple vs)) := by
  unfold results
  congr 1

theorem ires_sound {P : Program} {fn : Func} (hs : Simul N C s a w) {p : PV} (h : ires P fn.results.toList s = some p) : ∃ v, (results fn a.tmps).run P w = .ok v w ∧ VR C v p := by
  have one : ∀ (r : ResultVar) (q : PV), iresOne P s r = some q → ∃ v, (resOne a.tmps r).run P w = .ok v w ∧ VR C v q := by
    intro r q hr
    have slot : ∀ t, VR C (a.tmps.getD t undef) (s.env t) := fun t => hs.eval (.tmp t)
    cases r with
    | tmp t => simp only [iresOne, Option.some.injEq] at hr; subst hr; exact ⟨_, rfl, slot t⟩
    | cell x t =>
      simp only [iresOne, Option.bind_eq_some_iff] at hr
      obtain ⟨⟨z, ag⟩, ht, hq⟩ := hr
      obtain ⟨u, ad, he, hu, hu'⟩ := load_of hs.inv (slot x) ht hq
      refine ⟨u, ?_, hu'⟩
      simp only [resOne, he, Sem.run_bind, run_asAddr, Result.andThen, hu]
  have all : ∀ (l : List ResultVar) (ps : List PV), iresAll P s l = some ps → ∃ vs : List Value, (l.mapM (resOne a.tmps)).run P w = .ok vs w ∧
      vs.length = ps.length ∧ ∀ (i : Nat) (q : PV), ps[i]? = some q → ∃ v, vs[i]? = some v ∧ VR C v q := by
    intro l
    induction l with
    | nil => intro ps h; simp only [iresAll, Option.some.injEq] at h; subst h; exact ⟨[], rfl, rfl, by intro i q h; simp at h⟩
    | cons r l ih =>
      intro ps h
      simp only [iresAll, Option.bind_eq_some_iff, Option.map_eq_some_iff] at h
      obtain ⟨q, hq, ps', hps, rfl⟩ := h
      obtain ⟨v, hv, hv'⟩ := one r q hq
      obtain ⟨vs, hvs, hlen, hget⟩ := ih ps' hps
      refine ⟨v :: vs, ?_, by simp [hlen], fun i q' hi => ?_⟩
      · simp only [List.mapM_cons, Sem.run_bind, hv, Result.andThen, hvs, Sem.run_pure]
      · cases i with
        | zero => simp at hi; subst hi; exact ⟨v, rfl, hv'⟩
        | succ i => simpa using hget i q' (by simpa using hi)
  unfold ires at h
  have hm : fn.results.mapM (resOne a.tmps) = List.toArray <$> fn.results.toList.mapM (resOne a.tmps) := Array.mapM_eq_mapM_toList ..
  cases hps : iresAll P s fn.results.toList with
  | none => rw [hps] at h; cases h
  | some ps =>
    rw [hps] at h
    obtain ⟨vs, hvs, hlen, hget⟩ := all _ ps hps
    have hrun : (results fn a.tmps).run P w = .ok (if h : vs.toArray.size = 1 then vs.toArray[0] else .tuple vs.toArray) w := by
      rw [results_eq]
      simp only [Sem.run_bind]
      have : (fn.results.mapM (resOne a.tmps)).run P w = .ok vs.toArray w := by
        rw [hm, Sem.run_map, hvs]; rfl
      rw [this]
      simp only [Result.andThen, Sem.run_pure]
    refine ⟨_, hrun, ?_⟩
    match ps, h, hlen, hget with
    | [q], h, hlen, hget =>
      simp only [Option.some.injEq] at h; subst h
      obtain ⟨v, hv, hv'⟩ := hget 0 q rfl
      match vs, hlen, hv with
      | [v'], _, hv => simp at hv; subst hv; simpa using hv'
    | [], h, hlen, hget =>
      simp only [Option.some.injEq] at h; subst h
      have : vs = [] := List.eq_nil_of_length_eq_zero (by simpa using hlen)
      subst this
      simpa using VR.tuple (C := C) #[] [] rfl (by intro i p h; simp at h)
    | q1 :: q2 :: qs, h, hlen, hget =>
      simp only [Option.some.injEq] at h; subst h
      rw [dif_neg (by simp at hlen ⊢; omega)]
      refine .tuple _ _ (by simpa using hlen) (fun i q hi => ?_)
      obtain ⟨v, hv, hv'⟩ := hget i q hi
      have hlt : i < vs.length := (List.getElem?_eq_some_iff.1 hv).1
      have e : vs.toArray.getD i undef = v := by
        have := (List.getElem?_eq_some_iff.1 hv).2
        simp [Array.getD, hlt, this]
      rw [e]; exact hv'
end

/-- The slots at a function's beginning. -/
def env0 (args : List PV) : Nat → PV := fun t => args.getD t .bad

theorem simul_start {N : Nat} {C : Ctx} {st : Store} {w : World} {vals : Array Value} {args : List PV} (hi : Inv C st w) (hv : IXC.VRs C vals args) (hn : args.length ≤ N) :
    Simul N C ⟨env0 args, st⟩ { tmps := vals ++ Array.replicate (N - vals.size) undef, defers := [] } w := by
  obtain ⟨h1, h2⟩ := hv
  refine ⟨rfl, by simp; omega, fun t ht => ?_, fun t ht => ?_, hi⟩
  · show VR C _ (args.getD t .bad)
    rcases Nat.lt_or_ge t args.length with h | h
    · have e : args[t]? = some (args.getD t .bad) := by simp [List.getD, h]
      have := h2 t _ e
      have e2 : (vals ++ Array.replicate (N - vals.size) undef).getD t undef = vals.getD t undef := by
        simp only [Array.getD_eq_getD_getElem?]
        rw [Array.getElem?_append_left (by omega)]
      rw [e2]; exact this
    · have : args.getD t .bad = .bad := by simp [List.getD, List.getElem?_eq_none h]
      rw [this]; exact .bad _
  · show args.getD t .bad = .bad
    simp [List.getD, List.getElem?_eq_none (show args.length ≤ t by omega)]

/-- The end of a body. -/
def endQ (P : Program) (rs : List ResultVar) (Q : PV → Store → Prop) : IExit → IState → Prop
  | .normal, s | .ret, s => ∃ p, ires P rs s = some p ∧ Q p s.st
  | .exit _, _ => False

/-- **A contract from the ideal run of the body.** -/
theorem ixc_of_run {X : Cfg} (hX : TabOK X) (hq : QuietOK X) (hmix : X.P.follows .mixedOrders = true) {f : FuncId} {fn : Func} {c : Code} (hf : X.P.funcs[f]? = some fn) (hb : fn.body = some c)
    (hname : (fn.name == "runtime.NumGoroutine") = false) {args : List PV} (hn : args.length ≤ fn.ntmps) {st : Store} {s0 : IState} (hg : Ghost ⟨env0 args, st⟩ s0) {Q : PV → Store → Prop}
    (h : run X fn.ntmps (endQ X.P fn.results.toList Q) c [] s0) : IXC X.P f args st Q := by
  refine ⟨⟨fn, hf, by simp [hb], hname⟩, fun C w vals hi hv => ?_⟩
  obtain ⟨C0, hle0, hs0⟩ := hg.sound (simul_start hi hv hn)
  refine calls_of_wp hf hb (wp_mono (wpI_sound hX hq hmix c _ C0 _ _ w h hs0) fun e a w' hr => ?_)
  obtain ⟨e', C', s', h1, h2, h3, h4⟩ := hr
  replace h2 := hle0.trans h2
  have fin : (∃ p, ires X.P fn.results.toList s' = some p ∧ Q p s'.st) → a.defers = [] ∧ ∃ v, (results fn a.tmps).run X.P w' = .ok v w' ∧ ∃ v_1 C' r st', Ending.returned v = Ending.returned v_1 ∧ C.le C' ∧ Inv C' st' w' ∧ VR C' v_1 r ∧ Q r st' := by
    rintro ⟨p, hp, hQ⟩
    obtain ⟨v, hv, hv'⟩ := ires_sound h3 hp
    exact ⟨h3.defers, v, hv, v, C', p, s'.st, rfl, h2, h3.inv, hv', hQ⟩
  cases e <;> cases e' <;> first | (exact h1.elim) | skip
  · exact fin h4
  · exact h4.elim
  · exact fin h4

def st0 : Store := ⟨fun _ => none, 0⟩
/-- Where n arrays are laid by beforehand. -/
def stR (n : Nat) : Store := ⟨fun i => if i < n then some (.arr 0 1 []) else none, n⟩
theorem stR_ghost {ρ : Nat → PV} : ∀ n, Ghost ⟨ρ, st0⟩ ⟨ρ, stR n⟩
  | 0 => by
    have : stR 0 = st0 := by simp [stR, st0]
    rw [this]; exact .refl _
  | n + 1 => by
    refine .trans (stR_ghost n) ?_
    have : stR (n + 1) = (stR n).new (.arr 0 1 []) := by
      simp only [stR, Store.new]
      congr 1
      funext i
      simp only [updO]
      by_cases h : i = n
      · simp [h]
      · by_cases h2 : i < n
        · simp [h, h2, show i < n + 1 by omega]
        · simp [h, h2, show ¬ i < n + 1 by omega]
    rw [this]
    exact .res _ 1 (by omega)

theorem inv_base {imm : Nat → Nat → Option Value} {w : World} (h : ∀ b o u, imm b o = some u → w.cell? ⟨b, o, none⟩ = some u) : Inv (base imm w) st0 w where
  os := rfl
  out := rfl
  hB := Nat.le_refl _
  old := fun b _ => rfl
  imm := h
  next := fun _ _ h => h
  none_ := fun _ _ => rfl
  obj := fun id o h => by simp [st0] at h
  sep := fun id id' L L' _ h => by simp [base] at h

/-- **.. by values.** -/
theorem vc_of_run {X : Cfg} (hX : TabOK X) (hq : QuietOK X) (hmix : X.P.follows .mixedOrders = true) {f : FuncId} {fn : Func} {c : Code} (hf : X.P.funcs[f]? = some fn) (hb : fn.body = some c)
    (hname : (fn.name == "runtime.NumGoroutine") = false) {args : List PV} (hn : args.length ≤ fn.ntmps) {r : PV} {s0 : IState} (hg : Ghost ⟨env0 args, st0⟩ s0)
    (h : run X fn.ntmps (endQ X.P fn.results.toList (fun p st => DR st p r)) c [] s0) : VC X.P f args r := by
  obtain ⟨hen, hc⟩ := ixc_of_run hX hq hmix hf hb hname hn hg h
  refine ⟨hen, fun imm w vals himm hv => ?_⟩
  refine Calls.mono (hc _ w vals (inv_base himm) hv) fun e w' he => ?_
  obtain ⟨v, C', p, st', rfl, hle, hi, hvp, hdr⟩ := he
  have hBB : C'.B = w.heap.size := hle.B
  have hold : ∀ b, b < w.heap.size → w'.heap[b]? = w.heap[b]? := fun b hb => by
    rw [hi.old b (by omega), hle.h]; rfl
  refine ⟨v, rfl, ⟨by rw [hi.os, hle.os]; rfl, by rw [hi.out, hle.out]; rfl⟩, hold, by have := hi.hB; omega, ?_⟩
  refine hdr.sound (imm := sealed imm w.heap.size w') hi (fun b o u hu => ?_) (fun id L hL hcap o u hu => ?_) hvp
  · unfold sealed
    split
    · rename_i hlt
      have := hle.old b o hlt
      rw [this] at hu; exact hu
    · exact hi.imm b o u hu
  · obtain ⟨ob, _, _, hat⟩ := hi.live hL
    have := (hat.own hcap).1
    unfold sealed
    rw [if_neg (by omega)]
    exact hu
end Sim
