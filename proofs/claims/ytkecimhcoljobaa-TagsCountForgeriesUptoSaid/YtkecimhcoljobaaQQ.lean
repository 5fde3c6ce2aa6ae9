/- What functions of this seat compute, by values: contracts (lemmas of the statement's proof, under the conditions that each names). -/
import Derived.Test.YtkecimhcoljobaaQW
import Derived.Test.YtkecimhcoljobaaQO
namespace Sim
open Go Go.Proofs
set_option maxRecDepth 10000
set_option maxHeartbeats 2000000
set_option linter.unusedVariables false
set_option linter.unusedSimpArgs false
/-! What the law about forgeries computes. -/
def difA (sm R : List Int) (i : Nat) : Int := (sm.getD i 0 - R.getD i 0 + p31) % p31
def restA (m sm R : List Int) (j : Nat) (t rt : Int) : Nat → Int
  | 0 => (t - rt + p31) % p31
  | i + 1 => if i = j then restA m sm R j t rt i else (restA m sm R j t rt i - difA sm R i * m.getD i 0 % p31 + p31) % p31
def seedAt (m s T : List Int) (bl : List (List UInt8)) (i : Nat) : Int :=
  (s.getD i 0 + T.getD i 0 - (s.getD i 0 + sumM (prodM m (symM (bl.getD i [])))) % p31 + p31) % p31
def seedL (m s T : List Int) (bl : List (List UInt8)) (k : Nat) : List Int := (List.range s.length).map fun i => if i < k then seedAt m s T bl i else s.getD i 0
theorem difA_res (sm R : List Int) (i : Nat) : isRes (difA sm R i) := res_mod _
theorem restA_res (m sm R : List Int) (j : Nat) (t rt : Int) : ∀ i, isRes (restA m sm R j t rt i)
  | 0 => res_mod _
  | i + 1 => by
    simp only [restA]
    split
    · exact restA_res m sm R j t rt i
    · exact res_mod _
section
variable {m s T : List Int} {bl : List (List UInt8)} {k : Nat}
theorem seedL_len : (seedL m s T bl k).length = s.length := by simp [seedL]
theorem seedL_get {i : Nat} (h : i < s.length) : (seedL m s T bl k).getD i 0 = if i < k then seedAt m s T bl i else s.getD i 0 := by simp [seedL, h]
theorem seedL_zero : seedL m s T bl 0 = s := by
  apply List.ext_getElem
  · simp [seedL]
  · intro i h1 h2
    simp [seedL, List.getElem?_eq_getElem h2]
theorem seedL_set (h : k < s.length) : (seedL m s T bl k).set k (seedAt m s T bl k) = seedL m s T bl (k + 1) := by
  apply List.ext_getElem
  · simp [seedL]
  · intro i h1 h2
    simp only [seedL, List.getElem_set, List.getElem_map, List.getElem_range]
    by_cases e : k = i
    · subst e; simp
    · rw [if_neg e]
      by_cases h3 : i < k
      · rw [if_pos h3, if_pos (by omega)]
      · rw [if_neg h3, if_neg (by omega)]
theorem seedL_res (hs : allRes s) : allRes (seedL m s T bl k) := by
  intro x hx
  simp only [seedL, List.mem_map, List.mem_range] at hx
  obtain ⟨i, hi, rfl⟩ := hx
  split
  · exact res_mod _
  · exact hs _ (getD_mem 0 hi)
end
theorem set_res {m : List Int} {j : Nat} {x : Int} (hm : allRes m) (hx : isRes x) : allRes (m.set j x) := by
  intro y hy
  rcases List.mem_or_eq_of_mem_set hy with h | h
  · exact hm y h
  · rw [h]; exact hx
theorem forge_check {m s : List Int} {bl : List (List UInt8)} (hc : checkM m s = 0) {j : Nat} {x : Int} (hx : isRes x) (k : Nat) (T : List Int) : checkM (m.set j x) (seedL (m.set j x) s T bl k) = 0 := by
  obtain ⟨k1, k2, k3, k4, k5⟩ := check_zero.1 hc
  exact check_zero.2 ⟨by simpa using k1, by simpa using k2, by rw [seedL_len]; exact k3, set_res k4 hx, seedL_res k5⟩
section
variable {m s : List Int} {bl : List (List UInt8)} (hc : checkM m s = 0) (ht : tagsOK m s bl bl.length) {j : Nat} {x : Int} (hx : isRes x)
include hc ht hx
theorem forge_make {k i : Nat} (hi : i < bl.length) (T : List Int) : makeM (m.set j x) (seedL (m.set j x) s T bl k) ((i : Nat) : Int) (bl.getD i []) = (((seedL (m.set j x) s T bl k).getD i 0 + sumM (prodM (m.set j x) (symM (bl.getD i [])))) % p31, 0) := by
  have h1 := (make_zero hc (ht i hi))
  unfold makeM
  rw [if_neg (by simp [forge_check hc hx]), if_neg (by rw [seedL_len]; omega), if_neg (by rw [List.length_set]; omega), Int.toNat_natCast]
theorem forge_tags : tagsOK (m.set j x) (seedL (m.set j x) s (tagsM m s bl) bl bl.length) bl bl.length ∧ tagsM (m.set j x) (seedL (m.set j x) s (tagsM m s bl) bl bl.length) bl = tagsM m s bl := by
  have hl := tag_len hc ht
  refine ⟨fun i hi => by rw [forge_make hc ht hx hi], ext_upto (by rw [tagsM_len, tagsM_len]) fun i hi => ?_⟩
  rw [tagsM_len] at hi
  rw [tagsM_get hi, forge_make hc ht hx hi, seedL_get (by omega), if_pos hi]
  refine (Mo.eq ?_ (res_mod _) (tag_res hc ht _ (getD_mem 0 (by rw [tagsM_len]; exact hi))))
  generalize hT : (tagsM m s bl).getD i 0 = T
  unfold seedAt
  rw [hT]
  generalize sumM (prodM (m.set j x) (symM (bl.getD i []))) = S
  refine (Mo.md _).tr ?_
  have h1 : Mo ((s.getD i 0 + T - (s.getD i 0 + S) % p31 + p31) % p31) (s.getD i 0 + T - (s.getD i 0 + S) + p31) := by
    refine (Mo.md _).tr ?_
    obtain ⟨q, hq⟩ := Mo.md (s.getD i 0 + S)
    exact ⟨-q, by rw [hq]; omega⟩
  exact (h1.add (Mo.rfl' S)).tr ⟨1, by simp only [p31]; omega⟩
end
theorem rest_law {m sm R : List Int} {j : Nat} {t rt : Int} : ∀ n, Mo (restA m sm R j t rt n) (t - rt - Sg (fun i => if i = j then 0 else difA sm R i * m.getD i 0) n)
  | 0 => (Mo.md _).tr ⟨1, by simp only [Sg, p31]; omega⟩
  | n + 1 => by
    have ih := rest_law (m := m) (sm := sm) (R := R) (j := j) (t := t) (rt := rt) n
    simp only [restA, Sg]
    by_cases h : n = j
    · rw [if_pos h, if_pos h]
      exact ih.tr (.of_eq (by omega))
    · rw [if_neg h, if_neg h]
      obtain ⟨a, ha⟩ := ih
      obtain ⟨b, hb⟩ := Mo.md (difA sm R n * m.getD n 0)
      refine (Mo.md _).tr ⟨a - b + 1, ?_⟩
      rw [ha, hb]; simp only [p31]; omega
theorem dot_set {m u : List Int} {j : Nat} {x : Int} (hj : j < m.length) : dot (m.set j x) u = x * u.getD j 0 + Sg (fun i => if i = j then 0 else m.getD i 0 * u.getD i 0) m.length := by
  have key : ∀ n, Sg (fun i => (m.set j x).getD i 0 * u.getD i 0) n = (if j < n then x * u.getD j 0 else 0) + Sg (fun i => if i = j then 0 else m.getD i 0 * u.getD i 0) n := by
    intro n
    induction n with
    | zero => simp [Sg]
    | succ n ih =>
      simp only [Sg]
      rw [ih]
      by_cases h : n = j
      · subst h
        rw [if_neg (by omega), if_pos (by omega), if_pos rfl]
        have : (m.set n x).getD n 0 = x := by simp [List.getD, hj]
        rw [this]; omega
      · rw [if_neg h]
        have : (m.set j x).getD n 0 = m.getD n 0 := by simp [List.getD, List.getElem?_set_ne (fun e => h e.symm)]
        rw [this]
        by_cases h2 : j < n
        · rw [if_pos h2, if_pos (by omega)]; omega
        · rw [if_neg h2, if_neg (by omega)]; omega
  unfold dot
  rw [List.length_set, key, if_pos hj]
/-- The other answer is accepted by the key with one value of the factor alone. -/
theorem forge_law {m s sm : List Int} {bl : List (List UInt8)} {ak : List (Int × Int)} {j : Nat} {x t : Int} {R : List Int} {rt : Int} (hc : checkM m s = 0) (ht : tagsOK m s bl bl.length) (hx : isRes x) (hj : j < m.length)
    (hA : answerM m.length bl (tagsM m s bl) ak = ((R, rt), 0)) (hl : sm.length = m.length) (hr : isRes t) (hs : allRes sm) (hd : difA sm R j ≠ 0) :
    verifyM (m.set j x) (seedL (m.set j x) s (tagsM m s bl) bl bl.length) ak sm t = if x = restA m sm R j t rt m.length * invM (difA sm R j) % p31 then 0 else 23 := by
  have za := answer_chal hA
  have ca := chal_zero.1 za
  have hlen := tag_len hc ht
  rw [answer_eq hc ht, if_neg (by simp [za])] at hA
  simp only [Prod.mk.injEq, and_true] at hA
  obtain ⟨hR, hrt⟩ := hA
  have lR : R.length = m.length := by rw [← hR]; exact mixA_len
  obtain ⟨hk1, hk2⟩ := forge_tags (j := j) hc ht hx
  have hck := forge_check (j := j) (bl := bl) hc hx bl.length (tagsM m s bl)
  generalize hS : seedL (m.set j x) s (tagsM m s bl) bl bl.length = S at *
  have lS : S.length = s.length := by rw [← hS]; exact seedL_len
  have F := answer_fits hck hk1 ca ak.length (Nat.le_refl _)
  rw [hk2, hrt, List.length_set] at F
  have eR : Sg (fun i => (m.set j x).getD i 0 * acol bl ak i ak.length) m.length = dot (m.set j x) R := by
    unfold dot
    rw [List.length_set]
    exact Sg_ext fun i hi => by rw [← hR, mixA_get0 hi]
  rw [eR] at F
  have oks : ∀ a ∈ ak, okA S.length a := fun a h => ⟨(ca a h).1, by have := (ca a h).2.1; omega, (ca a h).2.2⟩
  have hF : Mo (dot (m.set j x) sm + seedS S ak ak.length) ((dot (m.set j x) sm + seedS S ak ak.length) % p31) := (Mo.md _).sym
  rw [ver_ok hck (by rw [List.length_set]; exact hl) hr hs oks (res_mod _) hF]
  -- the key equation
  have E : Mo (dot (m.set j x) sm + seedS S ak ak.length) (t + (x * difA sm R j - restA m sm R j t rt m.length)) := by
    have h1 : Mo (dot (m.set j x) sm) (dot (m.set j x) R + (x * difA sm R j + Sg (fun i => if i = j then 0 else difA sm R i * m.getD i 0) m.length)) := by
      rw [dot_set hj, dot_set hj]
      have d : ∀ i, Mo (sm.getD i 0) (R.getD i 0 + difA sm R i) := fun i => by
        obtain ⟨q, hq⟩ := Mo.md (sm.getD i 0 - R.getD i 0 + p31)
        exact ⟨-1 - q, by unfold difA; rw [hq]; simp only [p31]; omega⟩
      have h2 : Mo (Sg (fun i => if i = j then 0 else m.getD i 0 * sm.getD i 0) m.length) (Sg (fun i => (if i = j then 0 else m.getD i 0 * R.getD i 0) + (if i = j then 0 else difA sm R i * m.getD i 0)) m.length) := Sg_congr fun i _ => by
        by_cases e : i = j
        · rw [if_pos e, if_pos e, if_pos e]; exact .of_eq (by omega)
        · rw [if_neg e, if_neg e, if_neg e]
          exact ((Mo.rfl' (m.getD i 0)).mul (d i)).tr (.of_eq (by rw [Int.mul_add, Int.mul_comm (difA sm R i)]))
      rw [Sg_add] at h2
      have h3 := ((Mo.rfl' x).mul (d j)).add h2
      refine h3.tr (.of_eq ?_)
      rw [Int.mul_add]; omega
    obtain ⟨a, ha⟩ := h1
    obtain ⟨b, hb⟩ := F
    obtain ⟨c, hcc⟩ := rest_law (m := m) (sm := sm) (R := R) (j := j) (t := t) (rt := rt) m.length
    exact ⟨a + b + c, by rw [ha, hcc]; omega⟩
  have hinv := inv_law (difA_res sm R j) hd
  generalize hD : difA sm R j = D at *
  generalize restA m sm R j t rt m.length = Q at *
  by_cases e : x = Q * invM D % p31
  · rw [if_pos e, if_neg]
    intro h
    apply h
    refine (Mo.eq ?_ (res_mod _) hr)
    refine (Mo.md _).tr (E.tr ?_)
    have h1 : Mo (x * D) Q := by
      rw [e]
      refine ((Mo.md _).mul (Mo.rfl' D)).tr ?_
      refine (Mo.of_eq ?_).tr (((Mo.rfl' Q).mul hinv).tr (.of_eq (by omega)))
      rw [Int.mul_assoc, Int.mul_comm (invM D)]
    obtain ⟨a, ha⟩ := h1
    exact ⟨a, by rw [ha]; omega⟩
  · rw [if_neg e, if_pos]
    intro h
    apply e
    have h0 : Mo (dot (m.set j x) sm + seedS S ak ak.length) t := by rw [← h]; exact (Mo.md _).sym
    have h1 : Mo (D * x) (D * (Q * invM D)) := by
      obtain ⟨a, ha⟩ := E.sym.tr h0
      have h2 : Mo (D * (Q * invM D)) Q := by
        refine (Mo.of_eq ?_).tr (((Mo.rfl' Q).mul hinv).tr (.of_eq (by omega)))
        rw [← Int.mul_assoc, Int.mul_comm D Q, Int.mul_assoc]
      refine Mo.tr ?_ h2.sym
      exact ⟨a, by rw [Int.mul_comm D x]; omega⟩
    have hDr : isRes D := by rw [← hD]; exact difA_res _ _ _
    exact ((cancel hDr hd h1).tr (Mo.md _).sym).eq hx (res_mod _)
end Sim
