/- A function at given values, by computing. -/
import Derived.Test.YtmgklnbhbomlnaaSimU
namespace Sim
open Go
set_option linter.unusedVariables false
set_option linter.unusedSimpArgs false
def ev (X : Cfg) (N : Nat) : Nat → Code → IState → Option (IExit × IState)
  | 0, _, _ => none
  | n + 1, c, s => match c with
    | .skip => some (.normal, s)
    | .region _ ops _ => if noY X ops = true then (rrun X N ops ops.toList s).map fun s' => (.normal, s') else none
    | .seq a b => match ev X N n a s with
      | some (.normal, s') => ev X N n b s'
      | r => r
    | .cond c a b => match evalP s.env c with
      | .bool true => ev X N n a s
      | .bool false => ev X N n b s
      | _ => none
    | .block id c => match ev X N n c s with
      | some (.exit i, s') => if i = id then some (.normal, s') else some (.exit i, s')
      | r => r
    | .loop c => match ev X N n c s with
      | some (.normal, s') => ev X N n (.loop c) s'
      | r => r
    | .exit id => some (.exit id, s)
    | .ret => some (.ret, s)
    | _ => none
theorem ev_sound {X : Cfg} (hy : X.yl = none) {N : Nat} : ∀ (n : Nat) (c : Code) (s : IState) (e : IExit) (s' : IState), ev X N n c s = some (e, s') → ∀ Q : IExit → IState → Prop, Q e s' → wpI X N (undraw c) Q s := by
  intro n
  induction n using Nat.strongRecOn with
  | _ n ih =>
    intro c s e s' h Q hQ
    cases n with
    | zero => simp [ev] at h
    | succ n =>
      cases c <;> simp only [ev] at h
      case skip => cases h; exact hQ
      case region id ops dr =>
        split at h
        · rename_i hn
          simp only [Option.map_eq_some_iff, Prod.mk.injEq] at h
          obtain ⟨s1, h1, rfl, rfl⟩ := h
          exact ⟨fun h => by simp at h, (rwpY_noY (fun o ho => List.all_eq_true.1 hn o ho)).2 ⟨s1, h1, hQ⟩⟩
        · cases h
      case seq a b =>
        split at h
        · rename_i s1 h1
          exact ih n (Nat.lt_succ_self n) a s _ _ h1 _ (ih n (Nat.lt_succ_self n) b s1 e s' h Q hQ)
        · rename_i h1
          refine ih n (Nat.lt_succ_self n) a s _ _ h _ ?_
          cases e with
          | normal => exact absurd h (h1 _)
          | exit i => exact hQ
          | ret => exact hQ
      case cond c a b =>
        simp only [undraw, wpI, wpC]
        split at h
        · rename_i h1
          simp only [h1]
          exact ⟨fun _ => ih n (Nat.lt_succ_self n) a s _ _ h _ hQ, fun h => by simp at h⟩
        · rename_i h1
          simp only [h1]
          exact ⟨fun h => by simp at h, fun _ => ih n (Nat.lt_succ_self n) b s _ _ h _ hQ⟩
        · cases h
      case block id c =>
        split at h
        · rename_i i s1 h1
          refine ih n (Nat.lt_succ_self n) c s _ _ h1 _ ?_
          dsimp only
          split at h
          · rename_i hi
            cases h
            rw [if_pos hi]; exact hQ
          · rename_i hi
            cases h
            rw [if_neg hi]; exact hQ
        · rename_i h1
          refine ih n (Nat.lt_succ_self n) c s _ _ h _ ?_
          cases e with
          | normal => exact hQ
          | exit i => exact absurd h (h1 _ _)
          | ret => exact hQ
      case loop c =>
        refine ⟨fun m t => m ≤ n + 1 ∧ ev X N m (.loop c) t = some (e, s'), n + 1, ⟨s, .refl s, Nat.le_refl _, by simp only [ev]; exact h⟩, ?_⟩
        rintro m t ⟨hm, ht⟩
        cases m with
        | zero => simp [ev] at ht
        | succ m =>
          simp only [ev] at ht
          split at ht
          · rename_i s1 h1
            exact ih m (by omega) c t _ _ h1 _ ⟨m, Nat.lt_succ_self m, s1, .refl s1, by omega, ht⟩
          · rename_i h1
            refine ih m (by omega) c t _ _ ht _ ?_
            cases e with
            | normal => exact absurd ht (h1 _)
            | exit i => exact hQ
            | ret => exact hQ
      case exit id => cases h; exact hQ
      case ret => cases h; exact hQ
      all_goals cases h

def rdF (st : Store) : PV → Option PV
  | .tuple vs => (rdAll st vs).map .tuple
  | p => rdP st p
theorem rdF_DR {st : Store} {p q : PV} (h : rdF st p = some q) : DR st p q := by
  unfold rdF at h
  split at h
  · simp only [Option.map_eq_some_iff] at h
    obtain ⟨ds, h1, rfl⟩ := h
    obtain ⟨h2, h3⟩ := rdAll_get h1
    exact .tuple _ _ h2 h3
  · exact rdP_DR h

theorem drawsOk_tab {P : Program} {l l' : Entries} (hq : quietOf l = quietOf l') {m f : List Nat} {c : Code} : drawsOk (cfg P l m f) c = drawsOk (cfg P l' m f) c := by
  induction c <;> simp only [drawsOk]
  case region id ops dr =>
    cases dr
    · rfl
    have hn1 : ∀ op, noY1 (cfg P l m f) op = noY1 (cfg P l' m f) op := fun _ => rfl
    have hc : ∀ (x y : Oper), commO (cfg P l m f) ops x y = commO (cfg P l' m f) ops x y := fun x y => by
      have hf1 : ∀ y, freshO (cfg P l m f) y = freshO (cfg P l' m f) y := fun _ => rfl
      have hp1 : ∀ y, pastO (cfg P l m f) y = pastO (cfg P l' m f) y := fun _ => rfl
      simp only [commO, hn1, hf1, hp1]
      simp only [quietO, aloofO, localO, cfg, hq]
      first | done | rfl
    simp only [drawOk, hc]
  case seq a b iha ihb => rw [iha, ihb]
  case cond iha ihb => rw [iha, ihb]
  case block ih => rw [ih]
  case loop ih => rw [ih]
theorem quietOf_v {ι : Type} {g : ι → Nat} {s : ι → List PV → Option PV} : ∀ (l : List ι), quietOf (l.map fun i => (g i, .v (s i))) = quietOf []
  | [] => rfl
  | i :: l => by
    have ih := quietOf_v (g := g) (s := s) l
    funext f
    have ih := congrFun ih f
    simp only [quietOf, List.map_cons, List.find?_cons, List.find?_nil] at ih ⊢
    split
    · rename_i e he
      split at he
      · cases he; rfl
      · simp only [he] at ih; exact ih
    · rfl
/-- .. where some functions' contracts are given. -/
def evX (P : Program) (nf fuel : Nat) (cf : Nat → List Nat × List Nat) (ext : FuncId → List PV → Option PV) : Nat → FuncId → List PV → Option PV
  | 0, _, _ => none
  | n + 1, f, args => match ext f args with
    | some r => some r
    | none => match P.funcs[f]? with
      | none => none
      | some fn => match fn.body with
        | none => none
        | some c =>
          if (fn.name == "runtime.NumGoroutine") = false ∧ args.length ≤ fn.ntmps ∧ drawsOk (cfg P [] (cf f).1 (cf f).2) c = true then
            match ev (cfg P ((List.range nf).map fun g => (g, .v (evX P nf fuel cf ext n g))) (cf f).1 (cf f).2) fn.ntmps fuel c ⟨env0 args, st0⟩ with
            | some (.ret, s) => (ires P fn.results.toList s).bind fun p => rdF s.st p
            | some (.normal, s) => (ires P fn.results.toList s).bind fun p => rdF s.st p
            | _ => none
          else none
theorem evX_sound {P : Program} (hmix : P.follows .mixedOrders = true) {nf fuel : Nat} {cf : Nat → List Nat × List Nat} {ext : FuncId → List PV → Option PV} (hext : ∀ f args r, ext f args = some r → VC P f args r) : ∀ (n : Nat) (f : FuncId) (args : List PV) (q : PV), evX P nf fuel cf ext n f args = some q → VC P f args q := by
  intro n
  induction n with
  | zero => intro f args q h; simp [evX] at h
  | succ n ih =>
    intro f args q h
    simp only [evX] at h
    split at h
    · rename_i r hr
      cases h
      exact hext f args _ hr
    · split at h
      · cases h
      · rename_i fn hf
        split at h
        · cases h
        · rename_i c hb
          split at h
          · rename_i hc
            obtain ⟨hname, hn, hd⟩ := hc
            refine vc_of' (dep := 0) hmix (l := (List.range nf).map fun g => (g, .v (evX P nf fuel cf ext n g))) (fun e he => ?_) (cf f).1 (cf f).2 hf hb hname rfl hn rfl 0 fun _ => ?_
            · obtain ⟨g, _, rfl⟩ := List.mem_map.1 he
              exact fun args r hr => ih g args r hr
            · rw [drawsOk_tab (l' := (List.range nf).map fun g => (g, .v (evX P nf fuel cf ext n g))) (quietOf_v _).symm] at hd
              rw [show stR 0 = st0 by simp [stR, st0]]
              refine wpI_undraw (hookMono_none rfl) hd ?_
              split at h
              · rename_i s hs
                simp only [Option.bind_eq_some_iff] at h
                obtain ⟨p, hp, hq⟩ := h
                exact ev_sound rfl _ _ _ _ _ hs _ ⟨p, hp, rdF_DR hq⟩
              · rename_i s hs
                simp only [Option.bind_eq_some_iff] at h
                obtain ⟨p, hp, hq⟩ := h
                exact ev_sound rfl _ _ _ _ _ hs _ ⟨p, hp, rdF_DR hq⟩
              · cases h
          · cases h
end Sim
