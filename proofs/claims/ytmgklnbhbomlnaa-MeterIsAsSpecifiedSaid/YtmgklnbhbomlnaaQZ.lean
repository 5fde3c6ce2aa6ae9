/- What functions of this seat compute, by values: contracts (lemmas of the statement's proof, under the conditions that each names). -/
import Derived.Test.YtmgklnbhbomlnaaQY
import Derived.Test.YtmgklnbhbomlnaaSimZ
namespace Sim
open Go Go.Proofs
set_option maxRecDepth 100000
set_option linter.unusedVariables false
set_option linter.unusedSimpArgs false
theorem per_at {rs : List Rst} {t : List Tar} {hn : Int} {ls : List Lnk} {l : List Use} {tick : Int} {em : List Em} (h1 : mchkE t l = 0) (h2 : inM tick 1000000) (h3 : ∀ k, k < rs.length → rstO t.length rs k) (h4 : chK t hn ls l l.length = 0)
    (h5 : emA rs t hn ls l = em) (h6 : (keysE em).Pairwise ltK) (h7 : ∀ x ∈ em, ¬ 1099511627776 < x.2.tdiv 1000) : perE rs t hn ls l tick = 0 ∧ perL rs t hn ls l tick = outL em tick (keysE em) ∧ perR rs t hn ls l tick = outR em (keysE em) := by
  have e : perE rs t hn ls l tick = 0 := by
    unfold perE
    rw [if_neg (fun g => g h1), if_neg (fun g => g h2), if_neg (fun g => g h3), if_neg (fun g => g h4), h5, if_neg (fun ⟨x, hx, hb⟩ => h7 x hx hb)]
  have ho : ordK em = keysE em := pw_eq (ord_pair (pw_nodup h6)) h6 fun q => ord_mem
  refine ⟨e, ?_, ?_⟩
  · unfold perL; rw [if_pos e, h5, ho]
  · unfold perR; rw [if_pos e, h5, ho]
abbrev T0 : List Tar := [(2, 30, 500), (1, 10, 100)]
abbrev uKept : Use := (1, 0, 4, 100, 5, 10, 0, [])
abbrev uReads : Use := (3, 1, 4, 0, 0, 0, 7, [])
abbrev uMore : Use := (3, 1, 4, 0, 0, 0, 100, [])
abbrev uFine : Use := (5, 1, 0, 0, 0, 0, 3, [])
theorem per1 {hn : Int} {ls : List Lnk} : perE [] T0 hn ls [uKept, uReads] 9 = 0 ∧ perL [] T0 hn ls [uKept, uReads] 9 = [(0, 16, 1, 9, 1, 0)] ∧ perR [] T0 hn ls [uKept, uReads] 9 = [(4, 1, 3, 70)] :=
  per_at (em := [((4, 0, 1), 1000), ((4, 1, 3), 70)]) (by decide) (by decide) (fun k h => absurd h (by simp)) (by rfl) (by rfl) (by simp [keysE, ltK]) (by decide)
theorem per2 {hn : Int} {ls : List Lnk} : perE [(4, 1, 3, 70)] T0 hn ls [uMore] 10 = 0 ∧ perL [(4, 1, 3, 70)] T0 hn ls [uMore] 10 = [(1, 16, 1, 10, 3, 0)] ∧ perR [(4, 1, 3, 70)] T0 hn ls [uMore] 10 = [(4, 1, 3, 70)] :=
  per_at (em := [((4, 1, 3), 1070)]) (by decide) (by decide) (fun k h => by
    have e : k = 0 := by simp at h; omega
    subst e
    exact ⟨by decide, by decide, fun h => absurd h (by omega)⟩) (by rfl) (by rfl) (by simp [keysE, ltK]) (by decide)
theorem per3 {hn : Int} {ls : List Lnk} : perE [] T0 hn ls [uFine] 10 = 0 ∧ perL [] T0 hn ls [uFine] 10 = [(12, 1, 3, 10, 5, 0)] ∧ perR [] T0 hn ls [uFine] 10 = [] :=
  per_at (em := [((0, 1, 5), 3000)]) (by decide) (by decide) (fun k h => absurd h (by simp)) (by rfl) (by rfl) (by simp [keysE, ltK]) (by decide)
def decI : List PV → Option (List Int)
  | [] => some []
  | .int .i64 a :: l => (decI l).map fun rs => a :: rs
  | _ => none
theorem decI_ok : ∀ {l : List PV} {rs : List Int}, decI l = some rs → l = rs.map (PV.int .i64)
  | [], rs, h => by simp only [decI, Option.some.injEq] at h; subst h; rfl
  | p :: l, rs, h => by
    unfold decI at h
    split at h
    · rename_i e; cases e
    · rename_i a l' e
      cases e
      simp only [Option.map_eq_some_iff] at h
      obtain ⟨rs', h1, rfl⟩ := h
      rw [decI_ok h1]; rfl
    · cases h
def decL {α : Type} (f : PV → Option α) : List PV → Option (List α)
  | [] => some []
  | p :: l => (f p).bind fun a => (decL f l).map fun rs => a :: rs
theorem decL_ok {α : Type} {f : PV → Option α} {g : α → PV} (hf : ∀ p a, f p = some a → p = g a) : ∀ {l : List PV} {rs : List α}, decL f l = some rs → l = rs.map g
  | [], rs, h => by simp only [decL, Option.some.injEq] at h; subst h; rfl
  | p :: l, rs, h => by
    simp only [decL, Option.bind_eq_some_iff, Option.map_eq_some_iff] at h
    obtain ⟨a, h1, rs', h2, rfl⟩ := h
    rw [hf p a h1, decL_ok hf h2]; rfl
def dPst : PV → Option Pst
  | .agg [.int .i64 a, .int .i64 b, .int .i64 c, .int .i64 d, .int .i64 e, .int .i64 f] => some (a, b, c, d, e, f)
  | _ => none
theorem dPst_ok : ∀ p a, dPst p = some a → p = pstV a := by
  intro p a h
  unfold dPst at h
  split at h
  · cases h; rfl
  · cases h
def dRst : PV → Option Rst
  | .agg [.int .i64 a, .int .i64 b, .int .i64 c, .int .i64 d] => some (a, b, c, d)
  | _ => none
theorem dRst_ok : ∀ p a, dRst p = some a → p = rstV a := by
  intro p a h
  unfold dRst at h
  split at h
  · cases h; rfl
  · cases h
def dTar : PV → Option Tar
  | .agg [.int .i64 a, .int .i64 b, .int .i64 c] => some (a, b, c)
  | _ => none
theorem dTar_ok : ∀ p a, dTar p = some a → p = tarV a := by
  intro p a h
  unfold dTar at h
  split at h
  · cases h; rfl
  · cases h
def dSnd : PV → Option Snd
  | .agg [.int .i64 a, .int .i64 b, .int .i64 c] => some (a, b, c)
  | _ => none
theorem dSnd_ok : ∀ p a, dSnd p = some a → p = sndV a := by
  intro p a h
  unfold dSnd at h
  split at h
  · cases h; rfl
  · cases h
def dUse : PV → Option Use
  | .agg [.int .i64 a, .int .i64 b, .int .i64 c, .int .i64 d, .int .i64 e, .int .i64 f, .int .i64 g, .lits 3 l] => (decL dSnd l).map fun s => (a, b, c, d, e, f, g, s)
  | _ => none
theorem dUse_ok : ∀ p a, dUse p = some a → p = useV a := by
  intro p a h
  unfold dUse at h
  split at h
  · simp only [Option.map_eq_some_iff] at h
    obtain ⟨s, h1, rfl⟩ := h
    rw [decL_ok dSnd_ok h1]
  · cases h
def mkL (l : List Int) : Lnk := (l.getD 0 0, l.getD 1 0, fun i => l.getD (2 + i.val) 0, fun i => l.getD (26 + i.val) 0)
theorem mkL_ok {l : List Int} (h : l.length = 50) : l.map (PV.int .i64) = lkC (mkL l) := by
  apply List.ext_getElem
  · rw [List.length_map, lkC_len, h]
  · intro i h1 h2
    rw [List.length_map] at h1
    have key : (lkC (mkL l))[i]? = some (I (l.getD i 0)) := by
      by_cases c0 : i = 0
      · subst c0; exact lkC_0
      by_cases c1 : i = 1
      · subst c1; exact lkC_1
      by_cases c2 : i < 26
      · obtain ⟨j, rfl⟩ : ∃ j, i = 2 + j := ⟨i - 2, by omega⟩
        have g : j < 24 := by omega
        rw [lkC_cap g]
        simp [mkL, capA, g]
      · obtain ⟨j, rfl⟩ : ∃ j, i = 26 + j := ⟨i - 26, by omega⟩
        have g : j < 24 := by omega
        rw [lkC_pri g]
        simp [mkL, priA, g]
    rw [List.getElem?_eq_getElem h2, Option.some.injEq] at key
    rw [key, List.getElem_map, List.getD_eq_getElem?_getD, List.getElem?_eq_getElem h1]; rfl
def dLnk : PV → Option Lnk
  | .agg l => (decI l).bind fun s => if s.length = 50 then some (mkL s) else none
  | _ => none
theorem dLnk_ok : ∀ p a, dLnk p = some a → p = lnkV a := by
  intro p a h
  unfold dLnk at h
  split at h
  · simp only [Option.bind_eq_some_iff] at h
    obtain ⟨s, h1, h⟩ := h
    split at h
    · rename_i g; cases h; rw [decI_ok h1, mkL_ok g]
    · cases h
  · cases h
instance decUse : DecidableEq Use := @instDecidableEqProd _ _ inferInstance (@instDecidableEqProd _ _ inferInstance (@instDecidableEqProd _ _ inferInstance (@instDecidableEqProd _ _ inferInstance (@instDecidableEqProd _ _ inferInstance (@instDecidableEqProd _ _ inferInstance (@instDecidableEqProd _ _ inferInstance (inferInstanceAs (DecidableEq (List (Int × Int × Int))))))))))
def isAgg : PV → Bool
  | .agg _ => true
  | _ => false
theorem vr_elems {C : Ctx} {v : Value} {z : Nat} {l : List PV} (m : List (Nat × Nat)) (h : VR C v (.lits z l)) (ha : l.all isAgg = true) : VR C v (.lits z (l.map (nrm m))) := by
  have hg : ∀ e ∈ l, ∃ cs, e = .agg cs := fun e he => by
    have := List.all_eq_true.1 ha e he
    cases e with
    | agg cs => exact ⟨cs, rfl⟩
    | _ => cases this
  cases h with
  | lits b o size cap l hcap hmax hsz hl hi h =>
    have := VR.lits (C := C) b o z cap (l.map (nrm m)) (by rw [List.length_map]; exact hcap) hmax hsz (fun e he => by
      obtain ⟨x, hx, rfl⟩ := List.mem_map.1 he
      obtain ⟨cs, rfl⟩ := hg x hx
      obtain ⟨q1, q2⟩ := hl _ hx
      refine ⟨(nrmL_length (m := m) (i := 0) (l := cs)).trans q1, fun c hc => ?_⟩
      have hc : c ∈ nrmL m 0 cs := hc
      obtain ⟨j, hj⟩ := List.mem_iff_getElem?.1 hc
      rw [nrmL_get, Option.map_eq_some_iff] at hj
      obtain ⟨d, hd, rfl⟩ := hj
      exact nrm1_isCell (q2 d (List.mem_of_getElem? hd)) _) (fun i j hi' hj => hi i j (by rwa [List.length_map] at hi') hj) (fun i j e c he hc => by
      rw [List.getElem?_map, Option.map_eq_some_iff] at he
      obtain ⟨x, hx, rfl⟩ := he
      obtain ⟨cs, rfl⟩ := hg x (List.mem_of_getElem? hx)
      have hc : (nrmL m 0 cs)[j]? = some c := hc
      rw [nrmL_get, Option.map_eq_some_iff] at hc
      obtain ⟨d, hd, rfl⟩ := hc
      exact (h i j _ d hx hd).nrm1 _)
    rwa [List.length_map] at this
  | lits0 a cap z => exact .lits0 a cap z
theorem vc_weak {P : Program} {f : FuncId} {args args' : List PV} {r : PV} (h : ∀ C vals, IXC.VRs C vals args → IXC.VRs C vals args') (hv : VC P f args' r) : VC P f args r :=
  ⟨hv.1, fun imm w vals h1 h2 => hv.2 imm w vals h1 (h _ _ h2)⟩
theorem vrs_at {C : Ctx} {vals : Array Value} {args : List PV} {z k : Nat} {l : List PV} (m : List (Nat × Nat)) (hk : args[k]? = some (.lits z l)) (ha : l.all isAgg = true) (h : IXC.VRs C vals args) : IXC.VRs C vals (args.set k (.lits z (l.map (nrm m)))) := by
  refine ⟨by rw [List.length_set]; exact h.1, fun i p hp => ?_⟩
  rw [List.getElem?_set] at hp
  split at hp
  · rename_i e; subst e
    split at hp
    · simp only [Option.some.injEq] at hp; subst hp
      exact vr_elems m (h.2 _ _ hk) ha
    · cases hp
  · exact h.2 i p hp
def ext (f : FuncId) (args : List PV) : Option PV :=
  match args with
  | [.lits 3 t, .agg [.int .i64 hn, .lits 50 ls], .agg u] => (decL dTar t).bind fun t => (decL dLnk ls).bind fun ls => (dUse (.agg u)).bind fun u => if f = 11 then some (.tuple [I (chgM t hn ls u), I (chgE t hn ls u)]) else none
  | [.lits 3 t, .lits 8 l] => (decL dTar t).bind fun t => (decL dUse (l.map (nrm [(7, 3)]))).bind fun m => if f = 9 ∧ l.all isAgg = true then some (I (mchkE t m)) else none
  | [.lits 4 rs, .lits 3 t, .agg [.int .i64 hn, .lits 50 ls], .lits 8 l, .int .i64 tick] => (decL dRst rs).bind fun rs => (decL dTar t).bind fun t => (decL dLnk ls).bind fun ls => (decL dUse (l.map (nrm [(7, 3)]))).bind fun m =>
    if (f = 13 ∧ t = T0) ∧ l.all isAgg = true then
      (if rs = [] ∧ m = [uKept, uReads] ∧ tick = 9 then some (.tuple [psts [(0, 16, 1, 9, 1, 0)], rsts [(4, 1, 3, 70)], I 0])
      else if rs = [(4, 1, 3, 70)] ∧ m = [uMore] ∧ tick = 10 then some (.tuple [psts [(1, 16, 1, 10, 3, 0)], rsts [(4, 1, 3, 70)], I 0])
      else if rs = [] ∧ m = [uFine] ∧ tick = 10 then some (.tuple [psts [(12, 1, 3, 10, 5, 0)], rsts [], I 0]) else none) else none
  | [.lits 6 a, .lits 6 b] => (decL dPst a).bind fun a => (decL dPst b).bind fun b => if f = 15 ∧ a.length ≤ 100000 then some (B (decide (a = b))) else none
  | [.lits 4 a, .lits 4 b] => (decL dRst a).bind fun a => (decL dRst b).bind fun b => if f = 16 ∧ a.length ≤ 100000 then some (B (decide (a = b))) else none
  | _ => none
theorem ext_ok : ∀ f args r, ext f args = some r → VC Try.prog f args r := by
  intro f args r h
  unfold ext at h
  split at h
  · simp only [Option.bind_eq_some_iff] at h
    obtain ⟨t, h1, ls, h2, u, h3, h⟩ := h
    rw [decL_ok dTar_ok h1, decL_ok dLnk_ok h2, dUse_ok _ _ h3]
    split at h
    · rename_i e; subst e; cases h; exact c_charge t _ ls u (by unfold useP; omega)
    · cases h
  · simp only [Option.bind_eq_some_iff] at h
    obtain ⟨t, h1, l, h2, h⟩ := h
    rw [decL_ok dTar_ok h1]
    split at h
    · rename_i e
      obtain ⟨rfl, e⟩ := e
      cases h
      refine vc_weak (fun C vals hv => vrs_at [(7, 3)] (k := 1) rfl e hv) ?_
      rw [decL_ok dUse_ok h2]
      exact c_mchk t l
    · cases h
  · rename_i rs0 t0 hn0 ls0 l0 tick0
    simp only [Option.bind_eq_some_iff] at h
    obtain ⟨rs, h0, t, h1, ls, h2, l, h3, h⟩ := h
    rw [decL_ok dRst_ok h0, decL_ok dTar_ok h1, decL_ok dLnk_ok h2]
    have use : ∀ (hn : Int) rs l tick, rs.length ≤ 1000 → VC Try.prog 13 [rsts rs, tars T0, .agg [I hn, lnks ls], uses l, I tick] (.tuple [psts (perL rs T0 hn ls l tick), rsts (perR rs T0 hn ls l tick), I (perE rs T0 hn ls l tick)]) := fun hn rs l tick hl => c_period rs T0 hn ls l tick ⟨hl, fun u _ => (by unfold useP; omega)⟩
    split at h
    · rename_i e
      obtain ⟨⟨rfl, rfl⟩, e⟩ := e
      refine vc_weak (fun C vals hv => vrs_at [(7, 3)] (k := 3) rfl e hv) ?_
      rw [decL_ok dUse_ok h3]
      split at h
      · rename_i e; obtain ⟨rfl, rfl, rfl⟩ := e; cases h
        have := use hn0 [] [uKept, uReads] 9 (by decide)
        rwa [per1.1, per1.2.1, per1.2.2] at this
      · split at h
        · rename_i e; obtain ⟨rfl, rfl, rfl⟩ := e; cases h
          have := use hn0 [(4, 1, 3, 70)] [uMore] 10 (by decide)
          rwa [per2.1, per2.2.1, per2.2.2] at this
        · split at h
          · rename_i e; obtain ⟨rfl, rfl, rfl⟩ := e; cases h
            have := use hn0 [] [uFine] 10 (by decide)
            rwa [per3.1, per3.2.1, per3.2.2] at this
          · cases h
    · cases h
  · simp only [Option.bind_eq_some_iff] at h
    obtain ⟨a, h1, b, h2, h⟩ := h
    rw [decL_ok dPst_ok h1, decL_ok dPst_ok h2]
    split at h
    · rename_i e; obtain ⟨rfl, e⟩ := e; cases h; exact c_sameP a b e
    · cases h
  · simp only [Option.bind_eq_some_iff] at h
    obtain ⟨a, h1, b, h2, h⟩ := h
    rw [decL_ok dRst_ok h1, decL_ok dRst_ok h2]
    split at h
    · rename_i e; obtain ⟨rfl, e⟩ := e; cases h; exact c_sameR a b e
    · cases h
  · cases h
def cf (f : FuncId) : List Nat × List Nat := ([], [])
theorem t_sanity : evX Try.prog 200 400 cf ext 8 8 [] = some (.bool true) := by kernel_rfl
theorem sanity_ok : VC Try.prog 8 [] (.bool true) := evX_sound mixed ext_ok _ _ _ _ t_sanity
noncomputable def A_sanity : Unit → List PV := fun _ => []
noncomputable def R_sanity : Unit → PV := fun _ => B true
def H_sanity : Unit → Prop := fun _ => True
noncomputable def e_sanity : Nat × Ent := (8, .v (specOf A_sanity R_sanity H_sanity))
theorem j_sanity : ∀ i j, A_sanity i = A_sanity j → i = j := by
  rintro _ _ h
  rfl
theorem s_sanity  : specOf A_sanity R_sanity H_sanity [] = some (B true) := specOf_app j_sanity (i := ()) trivial
def C_sanity : Prop := VC Try.prog 8 [] (B true)
def O_sanity : Prop := EntOK Try.prog e_sanity.1 e_sanity.2
theorem k_sanity (c : C_sanity) : O_sanity := specOf_ok fun _ h => c 
theorem o_sanity : O_sanity := k_sanity sanity_ok
end Sim
