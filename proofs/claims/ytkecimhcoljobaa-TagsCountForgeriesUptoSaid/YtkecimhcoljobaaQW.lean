/- What functions of this seat compute, by values: contracts (lemmas of the statement's proof, under the conditions that each names). -/
import Derived.Test.YtkecimhcoljobaaQM
import Derived.Test.YtkecimhcoljobaaQS
namespace Sim
open Go Go.Proofs
set_option maxRecDepth 10000
set_option maxHeartbeats 2000000
set_option linter.unusedVariables false
set_option linter.unusedSimpArgs false
noncomputable def A_san : Unit → List PV := fun _ => []
noncomputable def R_san : Unit → PV := fun _ => B true
def H_san : Unit → Prop := fun _ => True
noncomputable def e_san : Nat × (List PV → Option PV) := (8, specOf A_san R_san H_san)
theorem j_san : ∀ i j, A_san i = A_san j → i = j := by
  rintro _ _ h
  rfl
theorem s_san  : specOf A_san R_san H_san [] = some (B true) := specOf_app j_san (i := ()) trivial
def C_san : Prop := VC Try.prog 8 [] (B true)
def O_san : Prop := ∀ args r, e_san.2 args = some r → VC Try.prog e_san.1 args r
theorem k_san (c : C_san) : O_san := specOf_ok fun _ h => c 
theorem c_san : C_san := sanity_ok
theorem o_san : O_san := k_san c_san
theorem mem_totB {bl : List (List UInt8)} {c : List UInt8} (h : c ∈ bl) : c.length ≤ totB bl := by
  induction bl with
  | nil => simp at h
  | cons a l ih =>
    simp only [totB, List.map_cons, List.sum_cons] at ih ⊢
    rcases List.mem_cons.1 h with rfl | h
    · omega
    · have := ih h; omega
theorem mulmod {a b : Int} (ha : isRes a) (hb : isRes b) : (IntKind.i64.wrap (a * b)).tmod 2147483647 = a * b % p31 := by
  have h1 := mul_res ha hb
  rw [wrap64 (by omega) (by omega), Int.tmod_eq_emod_of_nonneg h1.1]
theorem answer_chal {w : Int} {bl : List (List UInt8)} {tg : List Int} {ak : List (Int × Int)} {A : List Int × Int} (h : answerM w bl tg ak = (A, 0)) : chalM bl.length ak = 0 := by
  unfold answerM at h
  split at h
  · simp at h
  · split at h
    · simp at h
    · split at h
      · simp at h
      · split at h
        · simp at h
        · split at h
          · rename_i hc
            simp only [Prod.mk.injEq] at h
            exact h.2
          · rename_i hc
            exact Classical.not_not.1 hc
theorem mixA_get0 {bl : List (List UInt8)} {ak : List (Int × Int)} {W k j : Nat} (h : j < W) : (mixA bl ak W k 0).getD j 0 = acol bl ak j k := by simp [mixA, h]
theorem ver_ok {m s sm : List Int} {ak : List (Int × Int)} {t t' : Int} (hc : checkM m s = 0) (hl : sm.length = m.length) (hr : isRes t) (hs : allRes sm) (hok : ∀ a ∈ ak, okA s.length a) (ht' : isRes t')
    (hF : Mo (dot m sm + seedS s ak ak.length) t') : verifyM m s ak sm t = if t' ≠ t then 23 else 0 := by
  have h1 : verAll m s sm ak ak.length = t' := ((ver_dot (by omega) _).tr hF).eq (ver_res _) ht'
  unfold verifyM
  rw [if_neg (by simp [hc]), if_neg (by simp [hl]), if_neg (by simp [hr, hs]), if_neg (by simp [chal_zero.2 hok]), h1]
end Sim
