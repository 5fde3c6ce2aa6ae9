/- append, make, literals: the ideal operations. -/
import Derived.Test.YtbojbamchaohpaaSimI
namespace Sim
open Go
set_option linter.unusedVariables false
set_option linter.unusedSimpArgs false
section
variable {P : Program} {w : World} {C : Ctx} {st : Store}
theorem getD_append3 {olds news rest : Array Value} {k : Nat} : (olds ++ news ++ rest).getD k undef = if k < olds.size then olds.getD k undef else if k < olds.size + news.size then news.getD (k - olds.size) undef else rest.getD (k - olds.size - news.size) undef := by
  simp only [Array.getD_eq_getD_getElem?, Array.getElem?_append, Array.size_append]
  by_cases h1 : k < olds.size
  · rw [if_pos h1, if_pos (by omega), if_pos h1]
  · rw [if_neg h1]
    by_cases h2 : k < olds.size + news.size
    · rw [if_pos h2, if_pos h2, if_neg h1]
    · rw [if_neg h2, if_neg h2, if_neg h1, show k - (olds.size + news.size) = k - olds.size - news.size by omega]
theorem cellsAt_append {z : Nat} {es ys : List PV} {olds news rest : Array Value} (ho : olds.size = es.length * z) (hn : news.size = ys.length * z)
    (h1 : ∀ i e, es[i]? = some e → CellsAt C olds (i * z) z e) (h2 : ∀ i e, ys[i]? = some e → CellsAt C news (i * z) z e) :
    ∀ i e, (es ++ ys)[i]? = some e → CellsAt C (olds ++ news ++ rest) (i * z) z e := by
  intro i e he
  rcases Nat.lt_or_ge i es.length with hi | hi
  · rw [List.getElem?_append_left hi] at he
    refine (h1 i e he).congr (fun j hj => ?_)
    have := mul_bound (z := z) hi (Nat.le_refl _)
    rw [getD_append3, if_pos (by omega)]
  · rw [List.getElem?_append_right hi] at he
    have h3 := h2 _ e he
    have hi2 : i - es.length < ys.length := (List.getElem?_eq_some_iff.1 he).1
    have := mul_bound (z := z) hi2 (Nat.le_refl _)
    have e1 : i * z = es.length * z + (i - es.length) * z := by rw [← Nat.add_mul]; congr 1; omega
    refine ⟨h3.1, h3.2.1, fun j c hj => ?_⟩
    have hj' : j < z := by have := (List.getElem?_eq_some_iff.1 hj).1; have := h3.1; omega
    rw [getD_append3, if_neg (by omega), if_pos (by omega), show i * z + j - olds.size = (i - es.length) * z + j by omega]
    exact h3.2.2 j c hj
theorem Inv.sameObj (hi : Inv C st w) {id : Nat} {o : IObj} (h : st.obj id = some o) : Inv C (st.set id o) w := by
  have : st.set id o = st := by
    unfold Store.set
    have : updO st.obj id (some o) = st.obj := by
      funext i; unfold updO; split
      · rename_i e; rw [e, h]
      · rfl
    rw [this]
  rw [this]; exact hi
theorem splicedCells {z base q : Nat} {es ys : List PV} {cur : Array Value} {news : List Value} (hn : news.length = ys.length * z) (hfit : base + q * z + news.length ≤ cur.size)
    (h1 : ∀ i e, es[i]? = some e → CellsAt C cur (base + i * z) z e) (h2 : ∀ i e, ys[i]? = some e → CellsAt C news.toArray (i * z) z e) {p : Nat} {e : PV}
    (he : (q ≤ p ∧ ys[p - q]? = some e) ∨ (¬ (q ≤ p ∧ p < q + ys.length) ∧ es[p]? = some e)) :
    CellsAt C (cur.toList.take (base + q * z) ++ news ++ cur.toList.drop (base + q * z + news.length)).toArray (base + p * z) z e := by
  rcases he with ⟨h3, h4⟩ | ⟨h3, h4⟩
  · have h5 := h2 _ e h4
    have hlt : p - q < ys.length := (List.getElem?_eq_some_iff.1 h4).1
    have hmb := mul_bound (z := z) hlt (Nat.le_refl _)
    have e1 : p * z = q * z + (p - q) * z := by rw [← Nat.add_mul]; congr 1; omega
    refine ⟨h5.1, h5.2.1, fun j c hj => ?_⟩
    have hj' : j < z := by have := (List.getElem?_eq_some_iff.1 hj).1; have := h5.1; omega
    rw [getD_spliced hfit, if_pos (by omega), show base + p * z + j - (base + q * z) = (p - q) * z + j by omega]
    have := h5.2.2 j c hj
    simpa using this
  · refine (h1 p e h4).congr (fun j hj => ?_)
    rw [getD_spliced hfit]
    refine if_neg (fun hr => ?_)
    rw [hn] at hr
    rcases Nat.lt_or_ge p q with h5 | h5
    · have := mul_bound (z := z) h5 (Nat.le_refl _); omega
    · have := Nat.mul_le_mul_right z (show q + ys.length ≤ p by omega)
      rw [Nat.add_mul] at this; omega
theorem append_sound (hi : Inv C st w) {x y : Value} {px py q : PV} (hx : VR C x px) (hy : VR C y py) {t u ty : TypeId} {ys : List PV} (hys : elemsP st (tvSlc P t) py = some ys) (hu : tvSlc P u ≠ 0 ∨ tvStr P u = true)
    {st' : Store} (h : appendP st (tvSlc P t) px ys = some (q, st')) :
    ∃ v w' C', (Builtin.append_ #[t, u] ty #[x, y]).run P w = .ok v w' ∧ C.le C' ∧ Inv C' st' w' ∧ VR C' v q := by
  unfold appendP at h
  split at h
  · split at h
    · rename_i hc
      obtain ⟨hz, hm⟩ := hc
      obtain ⟨e, i, zv, he, hin, hzv, hsz, hz16, hby, hzs, hzc, hcell, hel, hz0⟩ := tvSlc_parts (t := t) rfl hz
      obtain ⟨news, hsrc⟩ := src_sound (P := P) hi hy hz hys
      have hnsz : news.toArray.size = ys.length * tvSlc P t := by simpa using hsrc.1
      cases hx
      split at h
      · rename_i h0
        simp only [Option.some.injEq, Prod.mk.injEq] at h; obtain ⟨rfl, rfl⟩ := h
        have hn0 := hsrc.2.2.1 w rfl
        have := run_append_in (P := P) (w := w) (ty := ty) (base := none) (sLen := 0) (sCap := 0) (w' := w) he hu hin hsrc.2.1 (by rw [hsz]; exact hn0) (by omega) (by intro a h; cases h) (fun _ => rfl)
        rw [h0] at this
        exact ⟨_, w, C, this, Ctx.le.refl C, hi, .nils⟩
      · rename_i h0
        simp only [Option.some.injEq, Prod.mk.injEq] at h; obtain ⟨rfl, rfl⟩ := h
        have := run_append_new (P := P) (w := w) (ty := ty) (base := none) (sLen := 0) (sCap := 0) (olds := #[]) he hu hin hzv hsrc.2.1 (fun w' _ => by simp [Builtin.firstCells]) (by rw [hsz]; exact hsrc.2.2.1) (by omega) (by omega) hby
        simp only [Nat.zero_add, Array.empty_append] at this
        have hge := grownCap_ge w ys.length 0 e
        obtain ⟨C', h1, h2, h3, h4⟩ := (hi.heap (w' := w.drew) rfl).newArr (T := e) (z := tvSlc P t) (cap := grownCap w ys.length 0 e) (es := ys) (cs := news.toArray ++ Builtin.zeroCells zv.cells (grownCap w ys.length 0 e - ys.length)) hz hge (grownCap_le_maxLen w ys.length 0 e (by simp only [maxLen]; omega))
          (by rw [Array.size_append, hnsz, size_zeroCells, hzs, ← Nat.add_mul]; exact Nat.mul_le_mul_right _ (by omega))
          (fun i e he => by
            have := cellsAt_append (C := C) (z := tvSlc P t) (es := []) (ys := ys) (olds := #[]) (news := news.toArray) (rest := Builtin.zeroCells zv.cells (grownCap w ys.length 0 (tvElem P t) - ys.length)) (by simp) hnsz (by intro i e h; simp at h) hsrc.2.2.2 i e (by simpa using he)
            simp only [Array.empty_append] at this
            rw [hel] at this; exact this)
        exact ⟨_, _, C', this, h1, h2, VR.newRef h3 h4 hge⟩
    · cases h
  · rename_i id gen s n
    cases hes : st.arr? id gen with
    | none => rw [hes] at h; cases h
    | some zes =>
      obtain ⟨z', es⟩ := zes
      rw [hes] at h
      simp only [Option.bind_some] at h
      obtain ⟨K, hK, hb, hg, hKz, hzz, hcap, hat⟩ := hi.arr hes
      split at h
      · rename_i hc
        obtain ⟨hsn, hz', hmax⟩ := hc
        rw [hz'] at hKz hzz
        have hz := hzz
        obtain ⟨e, i, zv, he, hin, hzv, hsz, hz16, hby, hzs, hzc, hcell, hel, hz0⟩ := tvSlc_parts (t := t) rfl hz
        obtain ⟨news, hsrc⟩ := src_sound (P := P) hi hy hz hys
        have hnsz : news.toArray.size = ys.length * tvSlc P t := by simpa using hsrc.1
        have hold := hx
        cases hx with
        | ref _ _ _ _ _ hv hb' hg' hr =>
          obtain ⟨a, rfl, h10, h11⟩ := hr K hK hg.symm
          -- what is written in place
          have inPlace : 0 < ys.length → n + ys.length ≤ K.cap - s → ∃ cur T, w.heap[K.blk]? = some (.cells cur T (0, 0)) ∧ K.off + K.cap * K.size ≤ cur.size ∧ K.off + (s + n) * tvSlc P t + news.length ≤ cur.size ∧
              a = some ⟨K.blk, K.off + s * tvSlc P t, none⟩ ∧ (∀ i e, es[i]? = some e → CellsAt C cur (K.off + i * tvSlc P t) (tvSlc P t) e) ∧
              (Builtin.append_ #[t, u] ty #[.slice a n (K.cap - s), y]).run P w = .ok (.slice a (n + ys.length) (K.cap - s)) (w.setRow K.blk (cur.toList.take (K.off + (s + n) * tvSlc P t) ++ news ++ cur.toList.drop (K.off + (s + n) * tvSlc P t + news.length)).toArray) := by
            intro h0 hroom
            obtain ⟨h5, h6, cur, T, h7, h8, h9⟩ := hat (by omega)
            have ha := h11 (by omega)
            rw [hKz] at ha h9
            have hmb := Nat.mul_le_mul_right K.size (show s + n + ys.length ≤ K.cap by omega)
            rw [Nat.add_mul, hKz] at hmb
            have hfit2 : K.off + (s + n) * tvSlc P t + news.length ≤ cur.size := by rw [hsrc.1]; rw [hKz] at h8; omega
            have hst := run_storeCells_at P K.blk (K.off + (s + n) * tvSlc P t) T news 0 cur w h7 (by simpa using hfit2) (hsrc.one hz)
            simp only [Nat.add_zero] at hst
            refine ⟨cur, T, h7, h8, hfit2, ha, h9, ?_⟩
            exact run_append_in (P := P) (w := w) (ty := ty) (sLen := n) (sCap := K.cap - s) (base := a) he hu hin hsrc.2.1 (by rw [hsz]; exact hsrc.2.2.1 w rfl) (by omega)
              (fun a' ha' => by rw [ha] at ha'; cases ha'; rw [add_eq, hsz, Nat.add_assoc, ← Nat.add_mul]; exact hst) (by intro h; rw [ha] at h; cases h)
          split at h
          · rename_i hfit
            simp only [Option.some.injEq, Prod.mk.injEq] at h; obtain ⟨rfl, rfl⟩ := h
            rcases Nat.eq_zero_or_pos ys.length with h0 | h0
            · have hy0 : ys = [] := List.eq_nil_of_length_eq_zero h0
              subst hy0
              have hn0 : news = [] := List.eq_nil_of_length_eq_zero (by simpa using hsrc.1)
              subst hn0
              have := run_append_in (P := P) (w := w) (ty := ty) (base := a) (sLen := n) (sCap := K.cap - s) (w' := w) he hu hin hsrc.2.1 (by rw [hsz]; exact hsrc.2.2.1 w rfl) (by simp; omega) (by intro a _; rfl) (fun _ => rfl)
              refine ⟨_, w, C, this, Ctx.le.refl C, ?_, by simpa using hold⟩
              have e1 : es.take (s + n) ++ [] ++ es.drop (s + n + ([] : List PV).length) = es := by simp
              rw [e1, ← hz']
              exact hi.sameObj (arr?_parts hes)
            · obtain ⟨cur, T, h7, h8, hfit2, ha, h9, hrun⟩ := inPlace h0 (by omega)
              have hcells : ∀ i e, (es.take (s + n) ++ ys ++ es.drop (s + n + ys.length))[i]? = some e → CellsAt C (cur.toList.take (K.off + (s + n) * tvSlc P t) ++ news ++ cur.toList.drop (K.off + (s + n) * tvSlc P t + news.length)).toArray (K.off + i * K.size) K.size e := by
                intro i e hie
                rw [hKz]
                refine splicedCells hsrc.1 hfit2 h9 hsrc.2.2.2 ?_
                have hlen1 : (es.take (s + n)).length = s + n := by simp; omega
                by_cases hin' : s + n ≤ i ∧ i < s + n + ys.length
                · refine .inl ⟨hin'.1, ?_⟩
                  rw [List.append_assoc, List.getElem?_append_right (by omega), hlen1, List.getElem?_append_left (by omega)] at hie; exact hie
                · refine .inr ⟨hin', ?_⟩
                  rcases Nat.lt_or_ge i (s + n) with h18 | h18
                  · rw [List.append_assoc, List.getElem?_append_left (by omega), List.getElem?_take_of_lt h18] at hie; exact hie
                  · have hlen2 : (es.take (s + n) ++ ys).length = s + n + ys.length := by simp; omega
                    rw [List.getElem?_append_right (by omega), hlen2, List.getElem?_drop] at hie
                    rw [show i = s + n + ys.length + (i - (s + n + ys.length)) by omega]; exact hie
              obtain ⟨C', h12, h13, h14, h15⟩ := hi.reArr (gen' := gen) (L' := K) hes hK (by omega) (.inl rfl) hg rfl (by omega) (by simp; omega) (hi.arrMax hes hK) h7 (by rw [size_spliced hfit2]; exact h8) hcells
              rw [hKz] at h13
              refine ⟨_, _, C', hrun, h12, h13, .ref _ _ _ _ _ rfl h15 (fun L' hL' => ?_) (fun L' hL' _ => ?_)⟩
              · rw [h14] at hL'; cases hL'; omega
              · rw [h14] at hL'; cases hL'
                exact ⟨_, rfl, by omega, fun _ => by rw [ha, hKz]⟩
          · rename_i hfit
            simp only [Option.some.injEq, Prod.mk.injEq] at h; obtain ⟨rfl, rfl⟩ := h
            have helen : ((es.drop s).take n).length = n := by simp; omega
            have hels : ∀ i e, ((es.drop s).take n)[i]? = some e → i < n ∧ es[s + i]? = some e := by
              intro i e he
              simp only [List.getElem?_take] at he
              split at he
              · exact ⟨by assumption, by simpa [List.getElem?_drop] using he⟩
              · cases he
            have hy0 : 0 < ys.length := by omega
            by_cases hroom : n + ys.length ≤ K.cap - s
            · -- in place, beyond what was there
              obtain ⟨cur, T, h7, h8, hfit2, ha, h9, hrun⟩ := inPlace hy0 hroom
              have hcells : ∀ i e, ((es.drop s).take n ++ ys)[i]? = some e → CellsAt C (cur.toList.take (K.off + (s + n) * tvSlc P t) ++ news ++ cur.toList.drop (K.off + (s + n) * tvSlc P t + news.length)).toArray (K.off + s * tvSlc P t + i * tvSlc P t) (tvSlc P t) e := by
                intro i e hie
                rw [show K.off + s * tvSlc P t + i * tvSlc P t = K.off + (s + i) * tvSlc P t by rw [Nat.add_mul]; omega]
                refine splicedCells hsrc.1 hfit2 h9 hsrc.2.2.2 ?_
                rcases Nat.lt_or_ge i n with h18 | h18
                · refine .inr ⟨by omega, ?_⟩
                  rw [List.getElem?_append_left (by omega)] at hie
                  exact (hels i e hie).2
                · refine .inl ⟨by omega, ?_⟩
                  rw [List.getElem?_append_right (by omega), helen] at hie
                  rw [show s + i - (s + n) = i - n by omega]; exact hie
              obtain ⟨C', h12, h13, h14, h15⟩ := hi.reArr (gen' := gen + 1) (L' := ⟨K.blk, K.off + s * tvSlc P t, tvSlc P t, K.cap - s, gen + 1⟩) hes hK (by omega) (.inr (by simp; omega)) rfl rfl hz (by simp; omega) (by have := hi.arrMax hes hK; show K.cap - s ≤ maxLen; omega) h7
                (by rw [size_spliced hfit2]
                    have : s * tvSlc P t + (K.cap - s) * tvSlc P t = K.cap * tvSlc P t := by rw [← Nat.add_mul]; congr 1; omega
                    rw [hKz] at h8; dsimp only; omega) hcells
              refine ⟨_, _, C', hrun, h12, h13, .ref _ _ _ _ _ rfl h15 (fun L' hL' => ?_) (fun L' hL' _ => ?_)⟩
              · rw [h14] at hL'; cases hL'; simp
              · rw [h14] at hL'; cases hL'
                exact ⟨a, by simp, by simpa using hroom, fun _ => by rw [ha]; simp⟩
            · -- a new block
              obtain ⟨olds, hosrc⟩ := src_sound (P := P) hi hold hz (ys := (es.drop s).take n) (by simp [elemsP, hes, hsn, hz'])
              have hosz : olds.toArray.size = ((es.drop s).take n).length * tvSlc P t := by simpa using hosrc.1
              have hofirst := hosrc.2.2.1
              rw [helen] at hofirst
              have hrun := run_append_new (P := P) (w := w) (ty := ty) (base := a) (sLen := n) (sCap := K.cap - s) (olds := olds.toArray) he hu hin hzv hsrc.2.1 (by rw [hsz]; exact hofirst) (by rw [hsz]; exact hsrc.2.2.1) (by omega) (by omega) hby
              have hge := grownCap_ge w (n + ys.length) (K.cap - s) e
              have hgm := grownCap_le_maxLen w (n + ys.length) (K.cap - s) e (by simp only [maxLen]; omega)
              generalize hcp : grownCap w (n + ys.length) (K.cap - s) e = cap at *
              have hi' := hi.heap (w' := w.drew) rfl
              have hlt : id < st.next := by
                rcases Nat.lt_or_ge id st.next with h | h
                · exact h
                · exact absurd hb (hi.next id h)
              have hput := hi'.put (w' := w.drew.alloc (.cells (olds.toArray ++ news.toArray ++ Builtin.zeroCells zv.cells (cap - (n + ys.length))) e)) (id := id) (nx := st.next) (o := .arr (gen + 1) (tvSlc P t) ((es.drop s).take n ++ ys)) (L' := ⟨w.heap.size, 0, tvSlc P t, cap, gen + 1⟩)
                (.inl ⟨K, hK, .inr (by simp; omega)⟩) (.inr (.inl (Nat.le_refl _))) (fun b hb _ => Go.heap_alloc_old w.drew _ hb) (by simp)
                (fun hle => ⟨rfl, rfl, hz, ⟨by simp; omega, hgm⟩, fun _ => ⟨hi.hB, fun o => hi.immLt (Nat.le_refl _), _, e, heap_alloc_new w.drew _, by
                  simp only [Array.size_append, hosz, hnsz, size_zeroCells, hzs, helen, ← Nat.add_mul, Nat.zero_add]
                  exact Nat.mul_le_mul_right _ (by omega), fun i e he => by
                    have := cellsAt_append (C := C) (z := tvSlc P t) (rest := Builtin.zeroCells zv.cells (cap - (n + ys.length))) hosz hnsz hosrc.2.2.2 hsrc.2.2.2 i e he
                    simpa using this.mono hle⟩⟩) (Nat.le_refl _) hlt
              refine ⟨_, _, _, hrun, hput.1, hput.2, .ref _ _ _ _ _ rfl (.inl rfl) (fun L' hL' => ?_) (fun L' hL' _ => ?_)⟩
              · simp [Ctx.set] at hL'; subst hL'; simp
              · simp [Ctx.set] at hL'; subst hL'
                exact ⟨some ⟨w.heap.size, 0, none⟩, by simp, by simp; omega, by simp⟩
      · cases h
  · cases h
end
end Sim
