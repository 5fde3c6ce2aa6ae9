/- What functions of this seat compute, by values: contracts (lemmas of the statement's proof, under the conditions that each names). -/
import Derived.Test.YtkecimhcoljobaaQL
import Derived.Test.YtkecimhcoljobaaQM
namespace Sim
open Go Go.Proofs
set_option maxRecDepth 10000
set_option maxHeartbeats 2000000
set_option linter.unusedVariables false
set_option linter.unusedSimpArgs false
theorem mixA_get0 {bl : List (List UInt8)} {ak : List (Int × Int)} {W k j : Nat} (h : j < W) : (mixA bl ak W k 0).getD j 0 = acol bl ak j k := by simp [mixA, h]
theorem mixM_get0 {l : List (List Int × Int)} {y : List Int} {n k j : Nat} (h : j < n) : (mixM l y n k 0).getD j 0 = colM l y j k := by simp [mixM, h]
theorem ver_ok {m s sm : List Int} {ak : List (Int × Int)} {t t' : Int} (hc : checkM m s = 0) (hl : sm.length = m.length) (hr : isRes t) (hs : allRes sm) (hok : ∀ a ∈ ak, okA s.length a) (ht' : isRes t')
    (hF : Mo (dot m sm + seedS s ak ak.length) t') : verifyM m s ak sm t = if t' ≠ t then 23 else 0 := by
  have h1 : verAll m s sm ak ak.length = t' := ((ver_dot (by omega) _).tr hF).eq (ver_res _) ht'
  unfold verifyM
  rw [if_neg (by simp [hc]), if_neg (by simp [hl]), if_neg (by simp [hr, hs]), if_neg (by simp [chal_zero.2 hok]), h1]
theorem fine_ok {m s : List Int} {bl : List (List UInt8)} {ak oth : List (Int × Int)} {x y : Int} (hc : checkM m s = 0) (ht : tagsOK m s bl bl.length) (rx : isRes x) (ry : isRes y) : Fine m s bl ak oth x y := by
  intro A B C e hA hB hC
  have za := answer_chal hA
  have zb := answer_chal hB
  have ca := chal_zero.1 za
  have cb := chal_zero.1 zb
  have hlen := tag_len hc ht
  obtain ⟨k1, k2, k3, k4, k5⟩ := check_zero.1 hc
  rw [answer_eq hc ht, if_neg (by simp [za])] at hA
  rw [answer_eq hc ht, if_neg (by simp [zb])] at hB
  simp only [Prod.mk.injEq, and_true] at hA hB
  have la : A.1.length = m.length := by rw [← hA]; exact mixA_len
  have lb : B.1.length = m.length := by rw [← hB]; exact mixA_len
  have ra : allRes A.1 := by
    rw [← hA]; intro v hv
    simp only [mixA, List.mem_map] at hv
    obtain ⟨i, _, rfl⟩ := hv
    rw [if_neg (by omega)]; exact acol_res _ _ _ _
  have rb : allRes B.1 := by
    rw [← hB]; intro v hv
    simp only [mixA, List.mem_map] at hv
    obtain ⟨i, _, rfl⟩ := hv
    rw [if_neg (by omega)]; exact acol_res _ _ _ _
  have ta : isRes A.2 := by rw [← hA]; exact atag_res _ _ _
  have tb : isRes B.2 := by rw [← hB]; exact atag_res _ _ _
  have FA : Mo (dot m A.1 + seedS s ak ak.length) A.2 := by
    have h1 := answer_fits hc ht ca ak.length (Nat.le_refl _)
    have h2 : dot m A.1 = Sg (fun j => m.getD j 0 * acol bl ak j ak.length) m.length := Sg_ext fun j hj => by rw [← hA]; rw [mixA_get0 hj]
    rw [h2]
    have h3 : A.2 = atag (tagsM m s bl) ak ak.length := by rw [← hA]
    rw [h3]; exact h1
  have FB : Mo (dot m B.1 + seedS s oth oth.length) B.2 := by
    have h1 := answer_fits hc ht cb oth.length (Nat.le_refl _)
    have h2 : dot m B.1 = Sg (fun j => m.getD j 0 * acol bl oth j oth.length) m.length := Sg_ext fun j hj => by rw [← hB]; rw [mixA_get0 hj]
    rw [h2]
    have h3 : B.2 = atag (tagsM m s bl) oth oth.length := by rw [← hB]
    rw [h3]; exact h1
  clear hA hB
  have oka : ∀ a ∈ ak, okA s.length a := fun a h => ⟨(ca a h).1, by have := (ca a h).2.1; omega, (ca a h).2.2⟩
  have okb : ∀ a ∈ oth, okA s.length a := fun a h => ⟨(cb a h).1, by have := (cb a h).2.1; omega, (cb a h).2.2⟩
  have okc : ∀ a ∈ scal ak x ++ scal oth y, okA s.length a := fun a h => by
    rcases List.mem_append.1 h with h | h
    · obtain ⟨b, hb, rfl⟩ := List.mem_map.1 h; exact ⟨(oka b hb).1, (oka b hb).2.1, res_mod _⟩
    · obtain ⟨b, hb, rfl⟩ := List.mem_map.1 h; exact ⟨(okb b hb).1, (okb b hb).2.1, res_mod _⟩
  have hCe : C = (mixM [A, B] [x, y] m.length 2 0, tagM [A, B] [x, y] 2) ∧ e = 0 := by
    have h1 : lenU [A, B] 2 := fun i hi => by
      match i, hi with
      | 0, _ => rfl
      | 1, _ => show B.1.length = A.1.length; omega
    have h2 : ¬ badU [A, B] [x, y] 2 := by
      rintro (h | ⟨i, hi, h⟩)
      · exact h fun v hv => by
          simp only [List.mem_cons, List.not_mem_nil, or_false] at hv
          rcases hv with rfl | rfl
          · exact rx
          · exact ry
      · match i, hi with
        | 0, _ => exact h ⟨ta, ra⟩
        | 1, _ => exact h ⟨tb, rb⟩
    unfold blendM at hC
    rw [if_neg (by simpa using h1), if_neg (by simpa using h2)] at hC
    simp only [Prod.mk.injEq] at hC
    have e1 : ([A, B].getD 0 (([], 0) : List Int × Int)).1.length = m.length := la
    rw [e1] at hC
    exact ⟨hC.1.symm, hC.2.symm⟩
  obtain ⟨hCC, rfl⟩ := hCe
  clear hC
  have lc : C.1.length = m.length := by rw [hCC]; exact mixM_len
  have rc : allRes C.1 := by
    rw [hCC]; intro v hv
    simp only [mixM, List.mem_map] at hv
    obtain ⟨i, _, rfl⟩ := hv
    rw [if_neg (by omega)]; exact colM_res _ _ _ _
  have tc : isRes C.2 := by rw [hCC]; exact tagM_res _ _ _
  have hcol : ∀ j, Mo (colM [A, B] [x, y] j 2) (A.1.getD j 0 * x + B.1.getD j 0 * y) := fun j => by
    have h1 : Mo (colM [A, B] [x, y] j 1) (0 + A.1.getD j 0 * x) := (Mo.md _).tr ((Mo.rfl' 0).add (Mo.md _))
    exact ((Mo.md _).tr (h1.add (Mo.md _))).tr (.of_eq (by simp))
  have htag : Mo C.2 (A.2 * x + B.2 * y) := by
    rw [hCC]
    have h1 : Mo (tagM [A, B] [x, y] 1) (0 + A.2 * x) := (Mo.md _).tr ((Mo.rfl' 0).add (Mo.md _))
    exact ((Mo.md _).tr (h1.add (Mo.md _))).tr (.of_eq (by simp))
  have hdot : Mo (dot m C.1) (dot m A.1 * x + dot m B.1 * y) := by
    have h1 : Mo (dot m C.1) (Sg (fun j => (m.getD j 0 * A.1.getD j 0) * x + (m.getD j 0 * B.1.getD j 0) * y) m.length) :=
      Sg_congr fun j hj => by
        have h2 : C.1.getD j 0 = colM [A, B] [x, y] j 2 := by rw [hCC]; exact mixM_get0 hj
        rw [h2]
        exact ((Mo.rfl' _).mul (hcol j)).tr (.of_eq (by grind))
    rw [Sg_add, Sg_mul, Sg_mul] at h1
    exact h1
  have hseed : Mo (seedS s (scal ak x ++ scal oth y) (scal ak x ++ scal oth y).length) (seedS s ak ak.length * x + seedS s oth oth.length * y) := by
    unfold seedS
    rw [List.length_append, scal_len, scal_len, Sg_split]
    refine Mo.add ?_ ?_
    · rw [← Sg_mul]
      refine Sg_congr fun i hi => ?_
      have e1 : (scal ak x ++ scal oth y).getD i (0, 0) = ((ak.getD i (0, 0)).1, (ak.getD i (0, 0)).2 * x % p31) := by
        rw [← scal_get hi]
        simp only [List.getD_eq_getElem?_getD]
        rw [List.getElem?_append_left (by rw [scal_len]; exact hi)]
      rw [e1]
      exact ((Mo.rfl' _).mul (Mo.md _)).tr (.of_eq (by grind))
    · rw [← Sg_mul]
      refine Sg_congr fun i hi => ?_
      have e1 : (scal ak x ++ scal oth y).getD (ak.length + i) (0, 0) = ((oth.getD i (0, 0)).1, (oth.getD i (0, 0)).2 * y % p31) := by
        rw [← scal_get hi]
        simp only [List.getD_eq_getElem?_getD]
        rw [List.getElem?_append_right (by rw [scal_len]; omega), scal_len, Nat.add_sub_cancel_left]
      rw [e1]
      exact ((Mo.rfl' _).mul (Mo.md _)).tr (.of_eq (by grind))
  have FC : Mo (dot m C.1 + seedS s (scal ak x ++ scal oth y) (scal ak x ++ scal oth y).length) C.2 := by
    refine ((hdot.add hseed).tr ?_).tr htag.sym
    exact Mo.tr (.of_eq (by grind)) ((FA.mul (Mo.rfl' x)).add (FB.mul (Mo.rfl' y)))
  refine ⟨rfl, ?_, ?_, ?_, ?_, tc, by omega⟩
  · rw [ver_ok hc la ta ra oka ta FA]; simp
  · rw [ver_ok hc lb tb rb okb tb FB]; simp
  · rw [ver_ok hc lc tc rc okc tc FC]; simp
  · rw [ver_ok hc lc (res_mod _) rc okc tc FC, if_pos]
    unfold isRes at tc
    simp only [p31]; omega
theorem c_accept_ok : C_accept := c_accept (fun _ _ _ _ _ _ _ hc ht rx ry => fine_ok hc ht rx ry) (fun _ _ _ _ hc ht => herr_ok hc ht _)
end Sim
