/- Contracts of functions: from the ideal run of a body; by values; in a table. -/
import Derived.Test.YtmgklnbhbomlnaaSimT
namespace Sim
open Go
set_option linter.unusedVariables false
set_option linter.unusedSimpArgs false
/-- **A contract from the ideal run of the body.** -/
theorem ixc_of_run {X : Cfg} (hyl : X.yl = none) (hX : TabOK X) (hq : QuietOK X) (hmix : X.P.follows .mixedOrders = true) {f : FuncId} {fn : Func} {c : Code} (hf : X.P.funcs[f]? = some fn) (hb : fn.body = some c)
    (hname : (fn.name == "runtime.NumGoroutine") = false) {args : List PV} (hn : args.length ≤ fn.ntmps) {st : Store} {s0 : IState} (hg : Ghost ⟨env0 args, st⟩ s0) {Q : PV → Store → Prop}
    (h : run X fn.ntmps (endQ X.P fn.results.toList Q) c [] s0) : IXC X.P f args st Q := by
  refine ⟨⟨fn, hf, by simp [hb], hname⟩, fun C w vals hi hv => ?_⟩
  have hi1 : Inv { C with keep := C.keep, caller := C.keep } st w := hi.same C.keep C.keep (fun _ h => h)
  have hv1 : IXC.VRs { C with keep := C.keep, caller := C.keep } vals args := ⟨hv.1, fun i p hp => VR.same (C := C) (C' := { C with keep := C.keep, caller := C.keep }) rfl rfl rfl (hv.2 i p hp)⟩
  obtain ⟨C0, hle0, hs0⟩ := hg.sound (simul_start hi1 hv1 hn (fun _ h => h))
  refine (callsIn_FR (rd := none) (n := 0)).1 (callsIn_of_wp_marks hf hb trivial (wpIn_mono (wpC_sound (gen_sound X.dep) X none C0 hX hq hmix (hookOK_none hyl) (.inl rfl) _ c _ C0 _ _ w (Ctx.le.refl C0).lek h hs0) fun e a w' hr => ?_))
  obtain ⟨e', C', s', h1, h2, h3, h4⟩ := hr
  replace h2 := hle0.trans h2
  have fin : (∃ p, ires X.P fn.results.toList s' = some p ∧ Q p s'.st) → LeavesInM (FR none) 0 X.P fn a.tmps (fun e w' => ∃ v C' r st', e = .returned v ∧ C.le C' ∧ Inv C' st' w' ∧ VR C' v r ∧ Q r st') a.defers .returning w' := by
    rintro ⟨p, hp, hQ⟩
    refine leave_marks a.defers C' w' h3.inv h3.defers h3.nodup h3.own fun C2 w2 e1 e2 e3 e4 e5 e6 e7 e8 hk hi2 => ?_
    have hs2 : Simul fn.ntmps C2 s' { tmps := a.tmps, defers := [] } w2 := ⟨fun d hd => by simp at hd, List.nodup_nil, fun b hb => hk b (by rw [← e8]; exact hb), h3.size, fun t ht => (h3.tmp t ht).same e1 e2 e3, h3.out, hi2⟩
    obtain ⟨v, hv, hv'⟩ := ires_sound hs2 hp
    have hck : ∀ b, C.keep b = true → C2.keep b = true := fun b hb => hk b (by rw [h2.caller]; exact hb)
    refine ⟨v, hv, v, { C2 with keep := C.keep, caller := C.caller }, p, s'.st, rfl, ?_, hi2.same C.keep C.caller hck, VR.same (C := C2) (C' := { C2 with keep := C.keep, caller := C.caller }) rfl rfl rfl hv', hQ⟩
    exact ⟨fun b o u hu => by rw [e1]; exact h2.imm b o u hu, fun b o hb => by show C2.imm b o = _; rw [e1]; exact h2.old b o hb, fun id hb => by show C2.born id; rw [e3]; exact h2.born id hb,
      fun id hb L' hL => h2.loc id hb L' (by rw [← e2]; exact hL), e4.trans h2.B, e5.trans h2.h, e6.trans h2.os, e7.trans h2.out, fun _ h => h, rfl⟩
  cases e <;> cases e' <;> first | (exact h1.elim) | skip
  · exact fin h4
  · exact h4.elim
  · exact fin h4

def st0 : Store := ⟨fun _ => none, 0⟩
/-- Where n arrays are laid by beforehand. -/
def stR (n : Nat) : Store := ⟨fun i => if i < n then some (.arr 0 1 []) else none, n⟩
theorem stR_ghost {ρ : Nat → PV} : ∀ n, Ghost ⟨ρ, st0⟩ ⟨ρ, stR n⟩
  | 0 => by
    have : stR 0 = st0 := by simp [stR, st0]
    rw [this]; exact .refl _
  | n + 1 => by
    refine .trans (stR_ghost n) ?_
    have : stR (n + 1) = (stR n).new (.arr 0 1 []) := by
      simp only [stR, Store.new]
      congr 1
      funext i
      simp only [updO]
      by_cases h : i = n
      · simp [h]
      · by_cases h2 : i < n
        · simp [h, h2, show i < n + 1 by omega]
        · simp [h, h2, show ¬ i < n + 1 by omega]
    rw [this]
    exact .res _ 1 (by omega)

theorem inv_base {imm : Nat → Nat → Option Value} {w : World} (h : ∀ b o u, imm b o = some u → w.cell? ⟨b, o, none⟩ = some u) : Inv (base imm w) st0 w where
  os := rfl
  out := rfl
  hB := Nat.le_refl _
  old := fun b _ => rfl
  imm := h
  next := fun _ _ h => h
  none_ := fun _ _ => rfl
  obj := fun id o h => by simp [st0] at h
  sep := fun id id' L L' _ h => by simp [base] at h
  keep := fun b h => by simp [base] at h

/-- **.. by values.** -/
theorem vc_of_run {X : Cfg} (hyl : X.yl = none) (hX : TabOK X) (hq : QuietOK X) (hmix : X.P.follows .mixedOrders = true) {f : FuncId} {fn : Func} {c : Code} (hf : X.P.funcs[f]? = some fn) (hb : fn.body = some c)
    (hname : (fn.name == "runtime.NumGoroutine") = false) {args : List PV} (hn : args.length ≤ fn.ntmps) {r : PV} {s0 : IState} (hg : Ghost ⟨env0 args, st0⟩ s0)
    (h : run X fn.ntmps (endQ X.P fn.results.toList (fun p st => DR st p r)) c [] s0) : VC X.P f args r := by
  obtain ⟨hen, hc⟩ := ixc_of_run hyl hX hq hmix hf hb hname hn hg h
  refine ⟨hen, fun imm w vals himm hv => ?_⟩
  refine Calls.mono (hc _ w vals (inv_base himm) hv) fun e w' he => ?_
  obtain ⟨v, C', p, st', rfl, hle, hi, hvp, hdr⟩ := he
  have hBB : C'.B = w.heap.size := hle.B
  have hold : ∀ b, b < w.heap.size → w'.heap[b]? = w.heap[b]? := fun b hb => by
    rw [hi.old b (by omega), hle.h]; rfl
  refine ⟨v, rfl, ⟨by rw [hi.os, hle.os]; rfl, by rw [hi.out, hle.out]; rfl⟩, hold, by have := hi.hB; omega, ?_⟩
  refine hdr.sound (imm := sealed imm w.heap.size w') hi (fun b o u hu => ?_) (fun id L hL hcap o u hu => ?_) hvp
  · unfold sealed
    split
    · rename_i hlt
      have := hle.old b o hlt
      rw [this] at hu; exact hu
    · exact hi.imm b o u hu
  · obtain ⟨ob, _, _, hat⟩ := hi.live hL
    have := (hat.own hcap).1
    unfold sealed
    rw [if_neg (by omega)]
    exact hu
end Sim
