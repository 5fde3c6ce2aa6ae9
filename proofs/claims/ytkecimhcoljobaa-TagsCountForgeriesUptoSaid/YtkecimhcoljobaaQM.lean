/- What functions of this seat compute, by values: contracts (lemmas of the statement's proof, under the conditions that each names). -/
import Derived.Test.YtkecimhcoljobaaQK
namespace Sim
open Go Go.Proofs
set_option maxRecDepth 10000
set_option maxHeartbeats 2000000
set_option linter.unusedVariables false
set_option linter.unusedSimpArgs false
/-- Equal modulo the prime. -/
def Mo (a b : Int) : Prop := ∃ k, a = b + 2147483647 * k
theorem Mo.rfl' (a : Int) : Mo a a := ⟨0, by omega⟩
theorem Mo.of_eq {a b : Int} (h : a = b) : Mo a b := ⟨0, by omega⟩
theorem Mo.sym {a b : Int} (h : Mo a b) : Mo b a := by obtain ⟨k, h⟩ := h; exact ⟨-k, by omega⟩
theorem Mo.tr {a b c : Int} (h : Mo a b) (g : Mo b c) : Mo a c := by obtain ⟨k, h⟩ := h; obtain ⟨l, g⟩ := g; exact ⟨k + l, by omega⟩
theorem Mo.add {a b c d : Int} (h : Mo a b) (g : Mo c d) : Mo (a + c) (b + d) := by obtain ⟨k, h⟩ := h; obtain ⟨l, g⟩ := g; exact ⟨k + l, by omega⟩
theorem Mo.mul {a b c d : Int} (h : Mo a b) (g : Mo c d) : Mo (a * c) (b * d) := by
  obtain ⟨k, h⟩ := h; obtain ⟨l, g⟩ := g
  exact ⟨b * l + k * d + 2147483647 * (k * l), by subst h; subst g; grind⟩
theorem Mo.md (a : Int) : Mo (a % p31) a := ⟨-(a / 2147483647), by simp only [p31]; omega⟩
theorem Mo.eq {a b : Int} (h : Mo a b) (ha : isRes a) (hb : isRes b) : a = b := by
  obtain ⟨k, h⟩ := h
  unfold isRes at ha hb
  omega
theorem Mo.eq_mod {a b : Int} (h : Mo a b) (ha : isRes a) : a = b % p31 := (h.tr (Mo.md b).sym).eq ha (res_mod b)
def Sg (f : Nat → Int) : Nat → Int
  | 0 => 0
  | n + 1 => Sg f n + f n
theorem Sg_congr {f g : Nat → Int} : ∀ {n : Nat}, (∀ j, j < n → Mo (f j) (g j)) → Mo (Sg f n) (Sg g n)
  | 0, _ => Mo.rfl' 0
  | n + 1, h => (Sg_congr fun j hj => h j (by omega)).add (h n (by omega))
theorem Sg_add {f g : Nat → Int} {n : Nat} : Sg (fun j => f j + g j) n = Sg f n + Sg g n := by
  induction n with
  | zero => rfl
  | succ n ih => simp only [Sg, ih]; omega
theorem Sg_mul {f : Nat → Int} {c : Int} {n : Nat} : Sg (fun j => f j * c) n = Sg f n * c := by
  induction n with
  | zero => simp [Sg]
  | succ n ih => simp only [Sg, ih]; grind
theorem Sg_zero {f : Nat → Int} {n : Nat} (h : ∀ j, j < n → f j = 0) : Sg f n = 0 := by
  induction n with
  | zero => rfl
  | succ n ih => simp only [Sg, ih fun j hj => h j (by omega), h n (by omega)]; rfl
theorem Sg_shift {f : Nat → Int} {n : Nat} : Sg f (n + 1) = f 0 + Sg (fun j => f (j + 1)) n := by
  induction n with
  | zero => simp [Sg]
  | succ n ih => rw [Sg, ih]; simp only [Sg]; omega
theorem Sg_ext {f g : Nat → Int} {n : Nat} (h : ∀ j, j < n → f j = g j) : Sg f n = Sg g n := by
  induction n with
  | zero => rfl
  | succ n ih => simp only [Sg, ih fun j hj => h j (by omega), h n (by omega)]
theorem Sg_split {f : Nat → Int} {a b : Nat} : Sg f (a + b) = Sg f a + Sg (fun j => f (a + j)) b := by
  induction b with
  | zero => simp [Sg]
  | succ b ih => rw [← Nat.add_assoc, Sg, ih]; simp only [Sg]; omega
theorem sumM_Sg (l : List Int) : Mo (sumM l) (Sg (fun j => l.getD j 0) l.length) := by
  have key : ∀ (n : Nat), n ≤ l.length → Mo (sumM (l.take n)) (Sg (fun j => l.getD j 0) n) := by
    intro n
    induction n with
    | zero => intro _; exact .of_eq (by simp [sumM, Sg])
    | succ n ih =>
      intro h
      rw [sumM_succ (by omega)]
      exact (Mo.md _).tr ((ih (by omega)).add (Mo.rfl' _))
  have := key l.length (Nat.le_refl _)
  rwa [List.take_length] at this
/-- The products of two lists, summed. -/
def dot (m u : List Int) : Int := Sg (fun j => m.getD j 0 * u.getD j 0) m.length
theorem prod_dot {m u : List Int} (h : u.length ≤ m.length) : Mo (sumM (prodM m u)) (dot m u) := by
  refine (sumM_Sg _).tr ?_
  have hl := prodM_len h
  rw [hl]
  have h1 : Mo (Sg (fun j => (prodM m u).getD j 0) u.length) (Sg (fun j => m.getD j 0 * u.getD j 0) u.length) :=
    Sg_congr fun j hj => by rw [prodM_get (by omega) hj]; exact Mo.md _
  refine h1.tr (.of_eq ?_)
  unfold dot
  obtain ⟨d, hd⟩ : ∃ d, m.length = u.length + d := ⟨m.length - u.length, by omega⟩
  rw [hd, Sg_split]
  rw [Sg_zero (n := d) fun j hj => by
    have : u.getD (u.length + j) 0 = 0 := by simp
    rw [this, Int.mul_zero]]
  omega
/-- What the seeds give to a challenge. -/
def seedS (s : List Int) (ak : List (Int × Int)) (k : Nat) : Int := Sg (fun i => s.getD (ak.getD i (0, 0)).1.toNat 0 * (ak.getD i (0, 0)).2) k
theorem ver_dot {m s sm : List Int} {ak : List (Int × Int)} (h : sm.length ≤ m.length) : ∀ k, Mo (verAll m s sm ak k) (dot m sm + seedS s ak k)
  | 0 => (prod_dot h).tr (.of_eq (by simp [seedS, Sg]))
  | k + 1 => by
    simp only [verAll]
    refine (Mo.md _).tr (((ver_dot h k).add (Mo.md _)).tr (.of_eq ?_))
    simp only [seedS, Sg]; omega
theorem ver_res {m s sm : List Int} {ak : List (Int × Int)} (k : Nat) : isRes (verAll m s sm ak k) := by
  cases k with
  | zero => exact sumM_res _
  | succ k => exact res_mod _
theorem make_zero {m s : List Int} {b : Int} {c : List UInt8} (hc : checkM m s = 0) (h : (makeM m s b c).2 = 0) : 0 ≤ b ∧ b < s.length ∧ (symM c).length ≤ m.length ∧ (makeM m s b c).1 = (s.getD b.toNat 0 + sumM (prodM m (symM c))) % p31 := by
  unfold makeM at h ⊢
  rw [if_neg (by simp [hc])] at h ⊢
  split at h
  · simp at h
  · rename_i h1
    split at h
    · simp at h
    · rename_i h2
      rw [if_neg h1, if_neg h2]
      exact ⟨by omega, by omega, by omega, rfl⟩
section
variable {m s : List Int} {bl : List (List UInt8)} (hc : checkM m s = 0) (ht : tagsOK m s bl bl.length)
include hc ht
theorem tag_len : bl.length ≤ s.length := by
  rcases Nat.eq_zero_or_pos bl.length with h | h
  · omega
  · have := (make_zero hc (ht (bl.length - 1) (by omega))).2.1; omega
theorem tag_wide : wideU m.length bl bl.length := fun i hi => (make_zero hc (ht i hi)).2.2.1
theorem tag_res : allRes (tagsM m s bl) := by
  intro x hx
  obtain ⟨i, hi, rfl⟩ := List.mem_iff_getElem.1 hx
  rw [tagsM_len] at hi
  have h1 := (make_zero hc (ht i hi)).2.2.2
  have h2 : (tagsM m s bl)[i]'(by rw [tagsM_len]; exact hi) = (makeM m s ((i : Nat) : Int) (bl.getD i [])).1 := by simp [tagsM]
  rw [h2, h1]; exact res_mod _
theorem answer_eq {ak : List (Int × Int)} : answerM m.length bl (tagsM m s bl) ak = if chalM bl.length ak ≠ 0 then ((([], 0) : List Int × Int), chalM bl.length ak) else ((mixA bl ak m.length ak.length 0, atag (tagsM m s bl) ak ak.length), 0) := by
  obtain ⟨k1, k2, k3, k4, k5⟩ := check_zero.1 hc
  have h1 := tag_len hc ht
  unfold answerM
  rw [if_neg (by omega), if_neg (by simp [tagsM_len]), if_neg (by simpa using tag_wide hc ht), if_neg (by simpa using tag_res hc ht)]
  simp only [Int.toNat_natCast]
theorem herr_ok (ak : List (Int × Int)) : (answerM m.length bl (tagsM m s bl) ak).2 = 0 ∨ (answerM m.length bl (tagsM m s bl) ak).2 = 1 ∨ (answerM m.length bl (tagsM m s bl) ak).2 = 3 := by
  have key : ∀ (n : Int) (l : List (Int × Int)), chalM n l = 0 ∨ chalM n l = 1 ∨ chalM n l = 3 := by
    intro n l
    induction l with
    | nil => simp [chalM]
    | cons a l ih =>
      simp only [chalM]
      split
      · exact .inr (.inl rfl)
      · split
        · exact .inr (.inr rfl)
        · exact ih
  rw [answer_eq hc ht]
  split
  · exact key _ _
  · exact .inl rfl
theorem tag_val {i : Nat} (hi : i < bl.length) : Mo ((tagsM m s bl).getD i 0) (s.getD i 0 + dot m (symM (bl.getD i []))) := by
  have h := make_zero hc (ht i hi)
  rw [tagsM_get hi, h.2.2.2, Int.toNat_natCast]
  exact (Mo.md _).tr ((Mo.rfl' _).add (prod_dot h.2.2.1))
/-- The answer's tag fits its sums. -/
theorem answer_fits {ak : List (Int × Int)} (hch : ∀ a ∈ ak, okA bl.length a) : ∀ k, k ≤ ak.length → Mo (Sg (fun j => m.getD j 0 * acol bl ak j k) m.length + seedS s ak k) (atag (tagsM m s bl) ak k)
  | 0, _ => .of_eq (by simp only [acol, seedS, Sg, atag]; rw [Sg_zero fun j hj => Int.mul_zero _]; rfl)
  | k + 1, hk => by
    have ih := answer_fits hch k (by omega)
    obtain ⟨q1, q2, q3⟩ := hch _ (getD_mem (0, 0) (show k < ak.length by omega))
    have hb : (ak.getD k (0, 0)).1.toNat < bl.length := by omega
    have htv := tag_val hc ht hb
    have h1 : Mo (Sg (fun j => m.getD j 0 * acol bl ak j (k + 1)) m.length) (Sg (fun j => m.getD j 0 * acol bl ak j k + m.getD j 0 * (syA bl ak k).getD j 0 * (ak.getD k (0, 0)).2) m.length) :=
      Sg_congr fun j hj => by
        have h2 : Mo (acol bl ak j (k + 1)) (acol bl ak j k + (syA bl ak k).getD j 0 * (ak.getD k (0, 0)).2) := (Mo.md _).tr ((Mo.rfl' _).add (Mo.md _))
        exact ((Mo.rfl' _).mul h2).tr (.of_eq (by grind))
    rw [Sg_add, Sg_mul] at h1
    have h3 : Mo (atag (tagsM m s bl) ak (k + 1)) (atag (tagsM m s bl) ak k + (s.getD (ak.getD k (0, 0)).1.toNat 0 + dot m (syA bl ak k)) * (ak.getD k (0, 0)).2) :=
      (Mo.md _).tr ((Mo.rfl' _).add ((Mo.md _).tr (htv.mul (Mo.rfl' _))))
    refine ((h1.add (Mo.rfl' (seedS s ak (k + 1)))).tr ?_).tr h3.sym
    refine Mo.tr (.of_eq ?_) (ih.add (Mo.rfl' ((s.getD (ak.getD k (0, 0)).1.toNat 0 + dot m (syA bl ak k)) * (ak.getD k (0, 0)).2)))
    simp only [seedS, Sg, dot]; grind
end
end Sim
