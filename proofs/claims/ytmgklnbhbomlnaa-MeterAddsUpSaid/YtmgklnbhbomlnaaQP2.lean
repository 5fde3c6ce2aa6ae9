/- What functions of this seat compute, by values: contracts (lemmas of the statement's proof, under the conditions that each names). -/
import Derived.Test.YtmgklnbhbomlnaaQP1
namespace Sim
open Go Go.Proofs
set_option maxRecDepth 10000
set_option linter.unusedVariables false
set_option linter.unusedSimpArgs false
def putL (em : List Em) (kv : List Em) : List Em := kv.foldl (fun e x => addE e x.1 x.2) em
def sumK (kv : List Em) (q : Key) : Int := (kv.map fun x => if x.1 = q then x.2 else 0).sum
theorem putL_snoc {em kv : List Em} {x : Em} : putL em (kv ++ [x]) = addE (putL em kv) x.1 x.2 := by simp [putL]
theorem sumK_cons {x : Em} {kv : List Em} {q : Key} : sumK (x :: kv) q = (if x.1 = q then x.2 else 0) + sumK kv q := rfl
theorem sumK_app {a b : List Em} {q : Key} : sumK (a ++ b) q = sumK a q + sumK b q := by simp [sumK]
theorem putL_sum {q : Key} : ∀ {kv em : List Em}, sumO (putL em kv) q = sumO em q + sumK kv q
  | [], em => by simp [putL, sumK]
  | x :: kv, em => by
    have ih := putL_sum (q := q) (kv := kv) (em := addE em x.1 x.2)
    have e : putL em (x :: kv) = putL (addE em x.1 x.2) kv := rfl
    rw [e, ih, sumO_add, sumK_cons]; omega
theorem putL_nodup : ∀ {kv em : List Em}, (keysE em).Nodup → (keysE (putL em kv)).Nodup
  | [], em, h => h
  | x :: kv, em, h => putL_nodup (kv := kv) (em := addE em x.1 x.2) (nodup_add h)
theorem out_len2 {em : List Em} {tick : Int} {ks : List Key} : (outL em tick ks).length ≤ ks.length ∧ (outR em ks).length ≤ ks.length := by
  unfold outL outR
  rw [List.length_map, List.length_map]
  exact ⟨List.length_filter_le _ _, List.length_filter_le _ _⟩
theorem emU_len {t : List Tar} {hn : Int} {ls : List Lnk} {l : List Use} {em : List Em} : ∀ k, (emU t hn ls l em k).length ≤ em.length + k
  | 0 => Nat.le_refl _
  | k + 1 => by
    have ih := emU_len (t := t) (hn := hn) (ls := ls) (l := l) (em := em) k
    have := add_len (em := emU t hn ls l em k) (k := ukey (l.getD k dU)) (c := chgM t hn ls (l.getD k dU))
    simp only [emU]; omega
theorem emR_len {rs : List Rst} : ∀ k, (emR rs k).length ≤ k
  | 0 => Nat.le_refl _
  | k + 1 => by
    have ih := emR_len (rs := rs) k
    have := add_len (em := emR rs k) (k := rkey (rs.getD k dR)) (c := (rs.getD k dR).2.2.2)
    simp only [emR]; omega
theorem emA_len {t : List Tar} {hn : Int} {ls : List Lnk} {l : List Use} {rs : List Rst} : (emA rs t hn ls l).length ≤ rs.length + l.length := by
  have h1 := emU_len (t := t) (hn := hn) (ls := ls) (l := l) (em := emR rs rs.length) l.length
  have h2 := emR_len (rs := rs) rs.length
  unfold emA; omega
theorem ord_len {em : List Em} : (ordK em).length = em.length := by
  unfold ordK; rw [List.length_mergeSort]; simp [keysE]
theorem per_mchk {rs : List Rst} {t : List Tar} {hn : Int} {ls : List Lnk} {l : List Use} {tick : Int} (h : perE rs t hn ls l tick = 0) : mchkE t l = 0 := by
  unfold perE at h
  by_cases c : mchkE t l = 0
  · exact c
  · rw [if_pos c] at h; exact h
theorem per_len {rs : List Rst} {t : List Tar} {hn : Int} {ls : List Lnk} {l : List Use} {tick : Int} : (perL rs t hn ls l tick).length ≤ rs.length + 200 ∧ (perR rs t hn ls l tick).length ≤ rs.length + 200 := by
  unfold perL perR
  by_cases h : perE rs t hn ls l tick = 0
  · rw [if_pos h, if_pos h]
    have h1 := mchk_len (per_mchk h)
    have h2 := emA_len (t := t) (hn := hn) (ls := ls) (l := l) (rs := rs)
    have h3 := out_len2 (em := emA rs t hn ls l) (tick := tick) (ks := ordK (emA rs t hn ls l))
    rw [ord_len] at h3
    omega
  · rw [if_neg h, if_neg h]; simp
section
variable {t : List Tar} {hn : Int} {ls : List Lnk}
def chP (t : List Tar) (hn : Int) (ls : List Lnk) (u : Use) : Em := (ukey u, chgM t hn ls u)
def rsP (r : Rst) : Em := (rkey r, r.2.2.2)
def pkey (x : Pst) : Key := if x.2.2.2.2.1 = 5 then (x.1 - 12, x.2.1, x.2.2.2.2.1) else (x.2.1 - 12, x.1, x.2.2.2.2.1)
def psP (x : Pst) : Em := (pkey x, 1000 * x.2.2.1)
theorem take_snoc {α β : Type} {f : α → β} {l : List α} {d : α} {k : Nat} (h : k < l.length) : (l.take (k + 1)).map f = (l.take k).map f ++ [f (l.getD k d)] := by
  rw [List.take_succ_eq_append_getElem h, List.map_append]; simp [h]
theorem emU_put {l : List Use} {em : List Em} : ∀ k, k ≤ l.length → emU t hn ls l em k = putL em ((l.take k).map (chP t hn ls))
  | 0, _ => by simp [emU, putL]
  | k + 1, h => by
    rw [take_snoc (d := dU) (by omega), putL_snoc, ← emU_put k (by omega)]; rfl
theorem emR_put {rs : List Rst} : ∀ k, k ≤ rs.length → emR rs k = putL [] ((rs.take k).map rsP)
  | 0, _ => by simp [emR, putL]
  | k + 1, h => by
    rw [take_snoc (d := dR) (by omega), putL_snoc, ← emR_put k (by omega)]; rfl
theorem emA_put {l : List Use} {rs : List Rst} : emA rs t hn ls l = putL (putL [] (rs.map rsP)) (l.map (chP t hn ls)) := by
  unfold emA
  rw [emU_put _ (Nat.le_refl _), emR_put _ (Nat.le_refl _), List.take_length, List.take_length]
theorem pkey_pst {tick s : Int} {q : Key} : psP (pstK tick q s) = (q, 1000 * s.tdiv 1000) := by
  obtain ⟨a, b, c⟩ := q
  unfold psP pkey pstK
  dsimp only
  by_cases h : c = 5
  · rw [if_pos h]; dsimp only; rw [if_pos h]
    refine Prod.ext (Prod.ext ?_ rfl) rfl
    show 12 + a - 12 = a
    omega
  · rw [if_neg h]; dsimp only; rw [if_neg h]
    refine Prod.ext (Prod.ext ?_ rfl) rfl
    show 12 + a - 12 = a
    omega
theorem rsP_rst {s : Int} {q : Key} : rsP (rstK q s) = (q, s.tmod 1000) := rfl
theorem sum_out {em : List Em} {tick : Int} (h0 : ∀ q, 0 ≤ sumO em q) {q : Key} : ∀ {ks : List Key}, ks.Nodup → sumK ((outL em tick ks).map psP) q = (if q ∈ ks then 1000 * (sumO em q).tdiv 1000 else 0) ∧ sumK ((outR em ks).map rsP) q = if q ∈ ks then (sumO em q).tmod 1000 else 0
  | [], _ => by simp [outL, outR, sumK]
  | k :: ks, hnd => by
    rw [List.nodup_cons] at hnd
    obtain ⟨i1, i2⟩ := sum_out h0 (q := q) hnd.2 (em := em) (tick := tick)
    have d0 := Int.tdiv_nonneg (a := sumO em k) (b := 1000) (h0 k) (by omega)
    have m0 := Int.tmod_nonneg 1000 (h0 k)
    have e1 : sumK ((outL em tick (k :: ks)).map psP) q = (if k = q then 1000 * (sumO em k).tdiv 1000 else 0) + sumK ((outL em tick ks).map psP) q := by
      unfold outL
      by_cases c : 0 < (sumO em k).tdiv 1000
      · rw [List.filter_cons_of_pos (by simpa using c), List.map_cons, List.map_cons, sumK_cons, pkey_pst]
      · rw [List.filter_cons_of_neg (by simpa using c), show (sumO em k).tdiv 1000 = 0 by omega]
        split <;> omega
    have e2 : sumK ((outR em (k :: ks)).map rsP) q = (if k = q then (sumO em k).tmod 1000 else 0) + sumK ((outR em ks).map rsP) q := by
      unfold outR
      by_cases c : 0 < (sumO em k).tmod 1000
      · rw [List.filter_cons_of_pos (by simpa using c), List.map_cons, List.map_cons, sumK_cons, rsP_rst]
      · rw [List.filter_cons_of_neg (by simpa using c), show (sumO em k).tmod 1000 = 0 by omega]
        split <;> omega
    rw [e1, e2, i1, i2]
    by_cases e : k = q
    · subst e
      simp only [if_true, List.mem_cons, true_or, if_neg hnd.1]
      omega
    · rw [if_neg e, if_neg e]
      have hm : (q ∈ k :: ks) ↔ q ∈ ks := by
        rw [List.mem_cons]; exact ⟨fun h => h.elim (fun h => absurd h.symm e) id, .inr⟩
      simp only [hm]
      omega
/-- What a period adds to an account, and leaves. -/
theorem per_sum {rs : List Rst} {l : List Use} {tick : Int} (hp : ∀ q, 0 ≤ sumO (emA rs t hn ls l) q) (h : perE rs t hn ls l tick = 0) (q : Key) :
    sumK ((perL rs t hn ls l tick).map psP) q + sumK ((perR rs t hn ls l tick).map rsP) q = sumK (rs.map rsP) q + sumK (l.map (chP t hn ls)) q := by
  unfold perL perR
  rw [if_pos h, if_pos h]
  have hnd := emA_nodup (t := t) (hn := hn) (ls := ls) (l := l) (rs := rs)
  obtain ⟨e1, e2⟩ := sum_out (em := emA rs t hn ls l) (tick := tick) hp (q := q) (pw_nodup (ord_pair hnd))
  rw [e1, e2]
  have e3 : sumO (emA rs t hn ls l) q = sumK (rs.map rsP) q + sumK (l.map (chP t hn ls)) q := by
    rw [emA_put, putL_sum, putL_sum]; simp [sumO]
  rw [← e3]
  have e4 := Int.mul_tdiv_add_tmod (sumO (emA rs t hn ls l) q) 1000
  by_cases m : q ∈ ordK (emA rs t hn ls l)
  · rw [if_pos m, if_pos m]; omega
  · rw [if_neg m, if_neg m, sum_not (fun g => m (ord_mem.2 g))]; rfl
theorem getD_map {α β : Type} {f : α → β} {l : List α} {d : α} {e : β} {k : Nat} (h : k < l.length) : (l.map f).getD k e = f (l.getD k d) := by simp [h]
theorem rst_right {em : List Em} {n : Nat} {ks : List Key} (hpw : ks.Pairwise ltK) (hin : ∀ q ∈ ks, inR n q) (h0 : ∀ q, 0 ≤ sumO em q) (hb : n ≤ 12) : ∀ k, k < (outR em ks).length → rstO n (outR em ks) k := by
  intro k hk
  unfold outR at *
  generalize hf : (ks.filter fun k => decide (0 < (sumO em k).tmod 1000)) = fs at *
  have hfp : fs.Pairwise ltK := by rw [← hf]; exact hpw.filter _
  rw [List.length_map] at hk
  have hat : ∀ j, j < fs.length → inR n (fs.getD j dK) ∧ 0 < (sumO em (fs.getD j dK)).tmod 1000 := fun j hj => by
    have hm : fs.getD j dK ∈ fs := at_mem' hj
    rw [← hf, List.mem_filter] at hm
    rw [← hf]
    exact ⟨hin _ hm.1, by simpa using hm.2⟩
  obtain ⟨a1, a2⟩ := hat k hk
  have a3 := Int.tmod_lt_of_pos (sumO em (fs.getD k dK)) (show (0 : Int) < 1000 by decide)
  unfold rstO
  rw [getD_map (d := dK) hk]
  refine ⟨?_, ?_, fun h => ?_⟩
  · unfold inR at a1
    unfold parO inM rstK
    dsimp only; omega
  · unfold rstK; dsimp only; omega
  · rw [getD_map (d := dK) (by omega)]
    have h1 : k - 1 < fs.length := by omega
    rw [List.getD_eq_getElem?_getD, List.getD_eq_getElem?_getD, List.getElem?_eq_getElem h1, List.getElem?_eq_getElem hk]
    exact List.pairwise_iff_getElem.1 hfp (k - 1) k h1 hk (by omega)
/-- The rests and uses of a period that has no error, but perhaps too much of something. -/
structure PerIn (t : List Tar) (hn : Int) (ls : List Lnk) (rs : List Rst) (l : List Use) : Prop where
  chk : mchkE t l = 0
  rst : ∀ k, k < rs.length → rstO t.length rs k
  chg : ∀ u ∈ l, chgE t hn ls u = 0
theorem chK_all {l : List Use} (h : ∀ u ∈ l, chgE t hn ls u = 0) : ∀ k, k ≤ l.length → chK t hn ls l k = 0
  | 0, _ => rfl
  | k + 1, hk => by
    simp only [chK]
    rw [if_neg (fun g => g (chK_all h k (by omega)))]
    exact h _ (at_mem' (by omega))
theorem useK_all {n : Nat} {l : List Use} (h : ∀ u ∈ l, useE n u = 0) : ∀ k, k ≤ l.length → useK n l k = 0
  | 0, _ => rfl
  | k + 1, hk => by
    simp only [useK]
    rw [if_neg (fun g => g (useK_all h k (by omega)))]
    exact h _ (at_mem' (by omega))
theorem useK_at {n : Nat} {l : List Use} (h : useK n l l.length = 0) : ∀ u ∈ l, useE n u = 0 := fun u hu => by
  obtain ⟨k, hk, rfl⟩ := List.getElem_of_mem hu
  have e : l.getD k dU = l[k] := by simp [hk]
  rw [← e]
  apply Classical.byContradiction
  intro g
  have h0 : ∀ j, j ≤ l.length → useK n l j = 0 := fun j hj => by
    apply Classical.byContradiction
    intro g
    have := use_stay g (l.length - j)
    rw [show j + (l.length - j) = l.length by omega, h] at this
    exact g this.symm
  have := use_at hk (h0 k (by omega)) g
  rw [h] at this
  exact g this.symm
theorem mchk_sub {t : List Tar} {l m : List Use} (h : mchkE t l = 0) (hm : ∀ u ∈ m, u ∈ l) (hl : m.length ≤ 200) : mchkE t m = 0 := by
  unfold mchkE at h ⊢
  by_cases c1 : 12 < t.length
  · rw [if_pos c1] at h; cases h
  rw [if_neg c1] at h ⊢
  by_cases c2 : ∀ x ∈ t, tarO x
  case neg => rw [if_pos c2] at h; cases h
  rw [if_neg (fun g => g c2)] at h ⊢
  by_cases c3 : 200 < l.length
  · rw [if_pos c3] at h; cases h
  rw [if_neg c3] at h
  rw [if_neg (by omega)]
  have := useK_at h
  exact useK_all (fun u hu => this u (hm u hu)) _ (Nat.le_refl _)
theorem per_two {rs : List Rst} {l : List Use} {tick : Int} (ok : PerIn t hn ls rs l) (ht : inM tick 1000000) : perE rs t hn ls l tick = 0 ∨ perE rs t hn ls l tick = 2 := by
  unfold perE
  rw [if_neg (fun g => g ok.chk), if_neg (fun g => g ht), if_neg (fun g => g ok.rst), if_neg (fun g => g (chK_all ok.chg _ (Nat.le_refl _)))]
  by_cases c : bigE (emA rs t hn ls l)
  · rw [if_pos c]; exact .inr rfl
  · rw [if_neg c]; exact .inl rfl
theorem per_nn {rs : List Rst} {l : List Use} (ok : PerIn t hn ls rs l) (q : Key) : 0 ≤ sumO (emA rs t hn ls l) q := by
  have h1 := (emR_in (n := t.length) (rs := rs) rs.length ok.rst).1
  have h2 := (emU_in (t := t) (hn := hn) (ls := ls) (l := l) (fun u _ => by unfold useP; omega) h1 l.length (Nat.le_refl _) (chK_all ok.chg _ (Nat.le_refl _))).1
  exact (h2.2 q).1
theorem per_keys {rs : List Rst} {l : List Use} (ok : PerIn t hn ls rs l) : ∀ q ∈ keysE (emA rs t hn ls l), inR t.length q :=
  emU_inR (emR_inR ok.rst) _ (Nat.le_refl _) (chK_all ok.chg _ (Nat.le_refl _))
theorem per_right {rs : List Rst} {l : List Use} {tick : Int} (ok : PerIn t hn ls rs l) : ∀ k, k < (perR rs t hn ls l tick).length → rstO t.length (perR rs t hn ls l tick) k := by
  unfold perR
  by_cases h : perE rs t hn ls l tick = 0
  · rw [if_pos h]
    refine rst_right (ord_pair emA_nodup) (fun q hq => per_keys ok q (ord_mem.1 hq)) (per_nn ok) ?_
    have := ok.chk
    unfold mchkE at this
    by_cases c : 12 < t.length
    · rw [if_pos c] at this; cases this
    · omega
  · rw [if_neg h]; intro k hk; simp at hk
def mineN (bs : List Int) (k : Nat) : Int := if k < bs.length then (bs.getD k 0).tmod 5 else 0
def nowK (l : List Use) (bs : List Int) (p : Int) : Nat → List Use
  | 0 => []
  | k + 1 => if mineN bs k = p then nowK l bs p k ++ [l.getD k dU] else nowK l bs p k
theorem now_sub {l : List Use} {bs : List Int} {p : Int} : ∀ k, k ≤ l.length → (∀ u ∈ nowK l bs p k, u ∈ l) ∧ (nowK l bs p k).length ≤ k
  | 0, _ => by simp [nowK]
  | k + 1, h => by
    obtain ⟨h1, h2⟩ := now_sub (l := l) (bs := bs) (p := p) k (by omega)
    simp only [nowK]
    split
    · refine ⟨fun u hu => ?_, by rw [List.length_append, List.length_singleton]; omega⟩
      rcases List.mem_append.1 hu with g | g
      · exact h1 u g
      · simp only [List.mem_singleton] at g; subst g; exact at_mem' (by omega)
    · exact ⟨h1, by omega⟩
theorem mine_in {bs : List Int} {k : Nat} (h : ∀ b ∈ bs, 0 ≤ b ∧ b ≤ 255) : 0 ≤ mineN bs k ∧ mineN bs k < 5 := by
  unfold mineN
  by_cases c : k < bs.length
  · rw [if_pos c]
    have := h _ (at_mem' (d := 0) c)
    exact ⟨Int.tmod_nonneg _ this.1, Int.tmod_lt_of_pos _ (by decide)⟩
  · rw [if_neg c]; omega
theorem now_sum {l : List Use} {bs : List Int} (hb : ∀ b ∈ bs, 0 ≤ b ∧ b ≤ 255) {q : Key} : ∀ k, k ≤ l.length →
    sumK ((nowK l bs 0 k).map (chP t hn ls)) q + sumK ((nowK l bs 1 k).map (chP t hn ls)) q + sumK ((nowK l bs 2 k).map (chP t hn ls)) q + sumK ((nowK l bs 3 k).map (chP t hn ls)) q + sumK ((nowK l bs 4 k).map (chP t hn ls)) q = sumK ((l.take k).map (chP t hn ls)) q
  | 0, _ => by simp [nowK, sumK]
  | k + 1, h => by
    have ih := now_sum (l := l) hb (q := q) k (by omega)
    have hm := mine_in (k := k) hb
    have e : ∀ p, sumK ((nowK l bs p (k + 1)).map (chP t hn ls)) q = sumK ((nowK l bs p k).map (chP t hn ls)) q + if mineN bs k = p then sumK [chP t hn ls (l.getD k dU)] q else 0 := fun p => by
      simp only [nowK]
      split
      · rw [List.map_append, sumK_app]; rfl
      · omega
    rw [take_snoc (d := dU) (by omega), sumK_app, ← ih, e, e, e, e, e]
    generalize sumK [chP t hn ls (l.getD k dU)] q = c
    have : mineN bs k = 0 ∨ mineN bs k = 1 ∨ mineN bs k = 2 ∨ mineN bs k = 3 ∨ mineN bs k = 4 := by omega
    rcases this with g | g | g | g | g <;> rw [g] <;> simp <;> omega
/-- The rests before a period. -/
noncomputable def rsN (t : List Tar) (hn : Int) (ls : List Lnk) (l : List Use) (bs : List Int) : Nat → List Rst
  | 0 => []
  | p + 1 => perR (rsN t hn ls l bs p) t hn ls (nowK l bs p l.length) (10 * p)
noncomputable def psN (t : List Tar) (hn : Int) (ls : List Lnk) (l : List Use) (bs : List Int) (p : Nat) : List Pst := perL (rsN t hn ls l bs p) t hn ls (nowK l bs p l.length) (10 * p)
noncomputable def erN (t : List Tar) (hn : Int) (ls : List Lnk) (l : List Use) (bs : List Int) (p : Nat) : Int := perE (rsN t hn ls l bs p) t hn ls (nowK l bs p l.length) (10 * p)
/-- The sums before a period. -/
noncomputable def gotN (t : List Tar) (hn : Int) (ls : List Lnk) (l : List Use) (bs : List Int) : Nat → List Em
  | 0 => []
  | p + 1 => putL (gotN t hn ls l bs p) ((psN t hn ls l bs p).map psP)
theorem in_now {l : List Use} {bs : List Int} {rs : List Rst} {p : Int} (hc : mchkE t l = 0) (hl : l.length ≤ 20) (hg : ∀ u ∈ l, chgE t hn ls u = 0) (hr : ∀ k, k < rs.length → rstO t.length rs k) : PerIn t hn ls rs (nowK l bs p l.length) := by
  obtain ⟨h1, h2⟩ := now_sub (l := l) (bs := bs) (p := p) l.length (Nat.le_refl _)
  exact ⟨mchk_sub hc h1 (by omega), hr, fun u hu => hg u (h1 u hu)⟩
theorem rsN_ok {l : List Use} {bs : List Int} (hc : mchkE t l = 0) (hl : l.length ≤ 20) (hg : ∀ u ∈ l, chgE t hn ls u = 0) : ∀ p k, k < (rsN t hn ls l bs p).length → rstO t.length (rsN t hn ls l bs p) k
  | 0, k, h => by simp [rsN] at h
  | p + 1, k, h => per_right (in_now hc hl hg (rsN_ok hc hl hg p)) k h
theorem rsN_in {l : List Use} {bs : List Int} (hc : mchkE t l = 0) (hl : l.length ≤ 20) (hg : ∀ u ∈ l, chgE t hn ls u = 0) (p : Nat) : PerIn t hn ls (rsN t hn ls l bs p) (nowK l bs p l.length) := in_now hc hl hg (rsN_ok hc hl hg p)
theorem erN_two {l : List Use} {bs : List Int} (hc : mchkE t l = 0) (hl : l.length ≤ 20) (hg : ∀ u ∈ l, chgE t hn ls u = 0) {p : Nat} (hp : p ≤ 5) : erN t hn ls l bs p = 0 ∨ erN t hn ls l bs p = 2 :=
  per_two (rsN_in hc hl hg p) (by unfold inM; omega)
theorem got_step {l : List Use} {bs : List Int} (hc : mchkE t l = 0) (hl : l.length ≤ 20) (hg : ∀ u ∈ l, chgE t hn ls u = 0) {p : Nat} (h : erN t hn ls l bs p = 0) (q : Key) :
    sumO (gotN t hn ls l bs (p + 1)) q + sumK ((rsN t hn ls l bs (p + 1)).map rsP) q = sumO (gotN t hn ls l bs p) q + sumK ((rsN t hn ls l bs p).map rsP) q + sumK ((nowK l bs p l.length).map (chP t hn ls)) q := by
  have h1 := per_sum (per_nn (rsN_in (bs := bs) hc hl hg p)) h q
  have e1 : gotN t hn ls l bs (p + 1) = putL (gotN t hn ls l bs p) ((psN t hn ls l bs p).map psP) := rfl
  have e2 : rsN t hn ls l bs (p + 1) = perR (rsN t hn ls l bs p) t hn ls (nowK l bs p l.length) (10 * p) := rfl
  rw [e1, e2, putL_sum]
  unfold psN
  omega
/-- All that is posted, and the rests, are what the uses cost. -/
theorem got_all {l : List Use} {bs : List Int} (hb : ∀ b ∈ bs, 0 ≤ b ∧ b ≤ 255) (hc : mchkE t l = 0) (hl : l.length ≤ 20) (hg : ∀ u ∈ l, chgE t hn ls u = 0) (h : ∀ p, p < 5 → erN t hn ls l bs p = 0) (q : Key) :
    sumO (putL (gotN t hn ls l bs 5) ((rsN t hn ls l bs 5).map rsP)) q = sumO (emU t hn ls l [] l.length) q := by
  have h0 := got_step (bs := bs) hc hl hg (h 0 (by omega)) q
  have h1 := got_step (bs := bs) hc hl hg (h 1 (by omega)) q
  have h2 := got_step (bs := bs) hc hl hg (h 2 (by omega)) q
  have h3 := got_step (bs := bs) hc hl hg (h 3 (by omega)) q
  have h4 := got_step (bs := bs) hc hl hg (h 4 (by omega)) q
  have hs := now_sum (t := t) (hn := hn) (ls := ls) (l := l) hb (q := q) l.length (Nat.le_refl _)
  rw [List.take_length] at hs
  rw [putL_sum, emU_put _ (Nat.le_refl _), List.take_length, putL_sum]
  have e0 : sumO (gotN t hn ls l bs 0) q = 0 := rfl
  have e1 : sumK ((rsN t hn ls l bs 0).map rsP) q = 0 := rfl
  have e2 : sumO [] q = 0 := rfl
  have z0 : nowK l bs ((0 : Nat) : Int) l.length = nowK l bs 0 l.length := rfl
  have z1 : nowK l bs ((1 : Nat) : Int) l.length = nowK l bs 1 l.length := rfl
  have z2 : nowK l bs ((2 : Nat) : Int) l.length = nowK l bs 2 l.length := rfl
  have z3 : nowK l bs ((3 : Nat) : Int) l.length = nowK l bs 3 l.length := rfl
  have z4 : nowK l bs ((4 : Nat) : Int) l.length = nowK l bs 4 l.length := rfl
  rw [z0] at h0
  rw [z1] at h1
  rw [z2] at h2
  rw [z3] at h3
  rw [z4] at h4
  simp only [Nat.reduceAdd] at h0 h1 h2 h3 h4
  omega
/-- What is right of the postings. -/
theorem ps_at {rs : List Rst} {l : List Use} {tick : Int} (x : Pst) (hx : x ∈ perL rs t hn ls l tick) : x.2.2.2.1 = tick ∧ 1 ≤ x.2.2.1 ∧ ∃ q ∈ keysE (emA rs t hn ls l), ¬ 1099511627776 < x.2.2.1 ∧ x = pstK tick q (sumO (emA rs t hn ls l) q) := by
  unfold perL at hx
  by_cases h : perE rs t hn ls l tick = 0
  case neg => rw [if_neg h] at hx; simp at hx
  rw [if_pos h] at hx
  unfold outL at hx
  obtain ⟨q, hq, rfl⟩ := List.mem_map.1 hx
  rw [List.mem_filter] at hq
  obtain ⟨h1, h2⟩ := hq
  simp only [decide_eq_true_eq] at h2
  have hb : ¬ bigE (emA rs t hn ls l) := fun hb => by
    unfold perE at h
    repeat' (split at h)
    all_goals first | (cases h; done) | contradiction
  have hm := ord_mem.1 h1
  have hnb : ¬ 1099511627776 < (sumO (emA rs t hn ls l) q).tdiv 1000 := fun g => by
    obtain ⟨e, he, heq⟩ := List.mem_map.1 hm
    refine hb ⟨e, he, ?_⟩
    rw [sum_mem emA_nodup e he, heq]; exact g
  have e : (pstK tick q (sumO (emA rs t hn ls l) q)).2.2.1 = (sumO (emA rs t hn ls l) q).tdiv 1000 := by unfold pstK; split <;> rfl
  refine ⟨by unfold pstK; split <;> rfl, by rw [e]; omega, q, hm, by rw [e]; exact hnb, rfl⟩
theorem rsN_len {l : List Use} {bs : List Int} : ∀ p, (rsN t hn ls l bs p).length ≤ 200 * p
  | 0 => Nat.le_refl _
  | p + 1 => by
    have ih := rsN_len (l := l) (bs := bs) p
    have := (per_len (rs := rsN t hn ls l bs p) (t := t) (hn := hn) (ls := ls) (l := nowK l bs p l.length) (tick := 10 * p)).2
    simp only [rsN]; omega
theorem psN_len {l : List Use} {bs : List Int} {p : Nat} : (psN t hn ls l bs p).length ≤ 200 * p + 200 := by
  have h1 := rsN_len (t := t) (hn := hn) (ls := ls) (l := l) (bs := bs) p
  have := (per_len (rs := rsN t hn ls l bs p) (t := t) (hn := hn) (ls := ls) (l := nowK l bs p l.length) (tick := 10 * p)).1
  unfold psN; omega
theorem sumK_le {q : Key} {b : Int} (hb : 0 ≤ b) : ∀ {kv : List Em}, (∀ x ∈ kv, 0 ≤ x.2 ∧ x.2 ≤ b) → 0 ≤ sumK kv q ∧ sumK kv q ≤ b * kv.length
  | [], _ => by simp [sumK]
  | x :: kv, h => by
    have ih := sumK_le (q := q) hb (kv := kv) fun y hy => h y (by simp [hy])
    have hx := h x (by simp)
    rw [sumK_cons, List.length_cons]
    have e : b * ((kv.length + 1 : Nat) : Int) = b * kv.length + b := by rw [Int.natCast_add, Int.mul_add]; simp
    rw [e]
    split <;> omega
theorem psP_in {rs : List Rst} {l : List Use} {tick : Int} : ∀ x ∈ (perL rs t hn ls l tick).map psP, 0 ≤ x.2 ∧ x.2 ≤ 1099511627776000 := fun x hx => by
  obtain ⟨y, hy, rfl⟩ := List.mem_map.1 hx
  obtain ⟨_, h1, q, _, h2, _⟩ := ps_at y hy
  unfold psP
  dsimp only; omega
theorem take_in {em : List Em} {j : Nat} {P : Em → Prop} (h : ∀ x ∈ em, P x) : ∀ x ∈ em.take j, P x := fun x hx => h x (List.mem_of_mem_take hx)
theorem got_part {l : List Use} {bs : List Int} {p j : Nat} (hp : p < 5) (q : Key) (h : 0 ≤ sumO (gotN t hn ls l bs p) q ∧ sumO (gotN t hn ls l bs p) q ≤ 1099511627776000 * 1000 * p) :
    0 ≤ sumO (putL (gotN t hn ls l bs p) (((psN t hn ls l bs p).take j).map psP)) q ∧ sumO (putL (gotN t hn ls l bs p) (((psN t hn ls l bs p).take j).map psP)) q ≤ 1099511627776000 * 1000 * (p + 1 : Nat) := by
  rw [putL_sum, List.map_take]
  have h1 := sumK_le (q := q) (b := 1099511627776000) (by decide) (take_in (j := j) (psP_in (t := t) (hn := hn) (ls := ls) (rs := rsN t hn ls l bs p) (l := nowK l bs p l.length) (tick := 10 * p)))
  have h2 := psN_len (t := t) (hn := hn) (ls := ls) (l := l) (bs := bs) (p := p)
  have h3 : (((psN t hn ls l bs p).map psP).take j).length ≤ 1000 := by rw [List.length_take, List.length_map]; omega
  unfold psN at *
  generalize sumK ((((perL (rsN t hn ls l bs p) t hn ls (nowK l bs p l.length) (10 * p)).map psP)).take j) q = a at *
  generalize ((((perL (rsN t hn ls l bs p) t hn ls (nowK l bs p l.length) (10 * p)).map psP)).take j).length = n at *
  omega
theorem got_le {l : List Use} {bs : List Int} : ∀ p, p ≤ 5 → ∀ q, 0 ≤ sumO (gotN t hn ls l bs p) q ∧ sumO (gotN t hn ls l bs p) q ≤ 1099511627776000 * 1000 * p
  | 0, _, q => by simp [gotN, sumO]
  | p + 1, h, q => by
    have ih := got_le (l := l) (bs := bs) p (by omega) q
    have := got_part (j := (psN t hn ls l bs p).length) (by omega) q ih
    rwa [List.take_length] at this
theorem got_nodup {l : List Use} {bs : List Int} : ∀ p, (keysE (gotN t hn ls l bs p)).Nodup
  | 0 => by simp [gotN, keysE]
  | p + 1 => putL_nodup (got_nodup p)
theorem chK_at {l : List Use} (h : chK t hn ls l l.length = 0) : ∀ u ∈ l, chgE t hn ls u = 0 := fun u hu => by
  obtain ⟨k, hk, rfl⟩ := List.getElem_of_mem hu
  have e : l.getD k dU = l[k] := by simp [hk]
  rw [← e]
  apply Classical.byContradiction
  intro g
  have h0 : ∀ j, j ≤ l.length → chK t hn ls l j = 0 := fun j hj => by
    apply Classical.byContradiction
    intro g
    have := ch_stay g (l.length - j)
    rw [show j + (l.length - j) = l.length by omega, h] at this
    exact g this.symm
  have := ch_at hk (h0 k (by omega)) g
  rw [h] at this
  exact g this.symm
end
end Sim
