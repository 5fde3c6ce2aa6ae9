/- Each ideal operation is what the machine does. -/
import Derived.Test.YtmgklnbhbomlnaaSimC
namespace Sim
open Go
set_option linter.unusedVariables false
set_option linter.unusedSimpArgs false
section
variable {P : Program} {w : World}
theorem info_of_cells {t : TypeId} (h : 0 < P.cellsOf t) : ∃ i, P.info? t = some i ∧ i.size = P.cellsOf t := by
  unfold Program.cellsOf at *
  cases hi : P.info? t with
  | none => rw [hi] at h; simp at h
  | some i => exact ⟨i, rfl, by simp⟩

theorem run_sizeOf' {t : TypeId} (h : 0 < P.cellsOf t) : (Go.sizeOf t).run P w = .ok (P.cellsOf t) w := by
  obtain ⟨i, hi, hs⟩ := info_of_cells h
  simp [Go.sizeOf, typeInfo, hi, hs]

theorem run_isAgg' {t : TypeId} {d : TypeDesc} (h : P.underlying t = some d) : (isAgg t).run P w = .ok (tvAgg P t) w := by
  unfold isAgg tvAgg
  rw [h]
  simp only [Sem.run_bind, run_underlying h, Result.andThen]
  cases d <;> rfl

theorem tvLd_parts {t : TypeId} {z : Nat} {ag : Bool} (h : tvLd P t = some (z, ag)) : (∃ d, P.underlying t = some d) ∧ 0 < P.cellsOf t ∧ z = P.cellsOf t ∧ ag = tvAgg P t := by
  unfold tvLd at h
  split at h
  · rename_i d hd
    split at h
    · simp at h; exact ⟨⟨d, hd⟩, by assumption, h.1.symm, h.2.symm⟩
    · cases h
  · cases h

theorem add_eq {b o i : Nat} : (⟨b, o, none⟩ : Addr).add i = ⟨b, o + i, none⟩ := by
  unfold Addr.add; split <;> simp_all

/-- What a pointer points to. -/
def Points (C : Ctx) (w : World) (v : Value) (cells : List PV) (off : Nat) : Prop :=
  ∃ b o, v = .pointer (some ⟨b, o + off, none⟩) ∧ ∀ j c, cells[j]? = some c → ∃ u, w.cell? ⟨b, o + j, none⟩ = some u ∧ VR C u c ∧ c.isCell = true

theorem points_vptr {C : Ctx} {st : Store} (hi : Inv C st w) {v : Value} {cells : List PV} {off : Nat} (h : VR C v (.vptr cells off)) : Points C w v cells off := by
  cases h with
  | vptr b o off cells hc hi' h =>
    refine ⟨b, o, rfl, fun j c hj => ?_⟩
    have hlt : j < cells.length := (List.getElem?_eq_some_iff.1 hj).1
    obtain ⟨u, hu⟩ := Option.isSome_iff_exists.1 (hi' j hlt)
    have := h j c hj
    rw [hu] at this
    exact ⟨u, hi.imm _ _ _ hu, this, hc c (List.mem_of_getElem? hj)⟩

theorem arr?_parts {st : Store} {id gen z : Nat} {es : List PV} (h : st.arr? id gen = some (z, es)) : st.obj id = some (.arr gen z es) := by
  unfold Store.arr? at h
  split at h
  · rename_i g z' es' ho
    split at h
    · rename_i e; subst e; simp at h; obtain ⟨rfl, rfl⟩ := h; exact ho
    · cases h
  · cases h

theorem nth_some {es : List PV} {i : Nat} (h : i < es.length) : es[i]? = some (nth es i) := by
  simp [nth, h]
theorem nth_lt {es : List PV} {i : Nat} (h : (nth es i).cells ≠ []) : i < es.length := by
  rcases Nat.lt_or_ge i es.length with hl | hl
  · exact hl
  · exfalso; apply h; simp [nth, List.getD, List.getElem?_eq_none hl, PV.cells]

/-- The parts of a live array. -/
theorem Inv.arr {C : Ctx} {st : Store} (hi : Inv C st w) {id gen z : Nat} {es : List PV} (ho : st.arr? id gen = some (z, es)) :
    ∃ L, C.loc id = some L ∧ C.born id ∧ L.gen = gen ∧ L.size = z ∧ 0 < z ∧ es.length ≤ L.cap ∧ (0 < L.cap → ArrAt C w L es) := by
  obtain ⟨hb, L, hL, h1, h1', h2, h3, h4⟩ := hi.obj id _ (arr?_parts ho)
  exact ⟨L, hL, hb, h1, h1', h2, h3.1, h4⟩

theorem Inv.arrMax {C : Ctx} {st : Store} (hi : Inv C st w) {id gen z : Nat} {es : List PV} (ho : st.arr? id gen = some (z, es)) {L : Loc} (hL : C.loc id = some L) : L.cap ≤ maxLen := by
  obtain ⟨hb, L', hL', h1, h1', h2, h3, h4⟩ := hi.obj id _ (arr?_parts ho)
  rw [hL] at hL'; cases hL'; exact h3.2

theorem cell_block {cs : Array Value} {T : TypeId} {fr : Nat × Nat} {b o : Nat} (h : w.heap[b]? = some (.cells cs T fr)) : w.cell? ⟨b, o, none⟩ = cs[o]? := by
  simp [World.cell?, h]

theorem CellsAt.cell {C : Ctx} {cs : Array Value} {T : TypeId} {fr : Nat × Nat} {b base size : Nat} {e : PV} (h : CellsAt C cs base size e) (hb : w.heap[b]? = some (.cells cs T fr))
    (hs : base + size ≤ cs.size) {j : Nat} {c : PV} (hj : e.cells[j]? = some c) : ∃ u, w.cell? ⟨b, base + j, none⟩ = some u ∧ VR C u c ∧ c.isCell = true := by
  have hlt : j < size := by have := (List.getElem?_eq_some_iff.1 hj).1; have := h.1; omega
  have h1 : base + j < cs.size := by omega
  refine ⟨cs[base + j], by rw [cell_block hb]; simp [h1], ?_, h.2.1 c (List.mem_of_getElem? hj)⟩
  have := h.2.2 j c hj
  simpa [Array.getD, h1] using this

theorem mul_bound {i n z cap : Nat} (h : i < n) (hn : n ≤ cap) : i * z + z ≤ cap * z := by
  have : (i + 1) * z ≤ cap * z := Nat.mul_le_mul_right z (by omega)
  rw [Nat.succ_mul] at this; exact this

theorem points_ptr {C : Ctx} {st : Store} (hi : Inv C st w) {v : Value} {id gen idx off z : Nat} {es : List PV} (h : VR C v (.ptr id gen idx off)) (ho : st.arr? id gen = some (z, es))
    (hidx : idx < es.length) : Points C w v (nth es idx).cells off := by
  obtain ⟨L, hL, hb, hg, hLz, hz, hcap, hat⟩ := hi.arr ho
  cases h with
  | ptr _ _ _ _ _ hv hb' hg' h =>
    have hv := h L hL hg.symm
    obtain ⟨_, _, cs, T, h1, h2, h3⟩ := hat (by omega)
    refine ⟨L.blk, L.off + idx * L.size, hv, fun j c hj => ?_⟩
    have := mul_bound (z := L.size) hidx hcap
    exact (h3 idx _ (nth_some hidx)).cell h1 (by omega) hj

/-- A load. -/
theorem load_sound {C : Ctx} {v : Value} {cells : List PV} {off : Nat} (hp : Points C w v cells off) {t : TypeId} {z : Nat} {ag : Bool} (ht : tvLd P t = some (z, ag)) {p : PV}
    (h : pickP cells off z ag = some p) : ∃ u, (Instr.loadAt t v).run P w = .ok u w ∧ VR C u p := by
  obtain ⟨⟨d, hd⟩, hpos, rfl, rfl⟩ := tvLd_parts ht
  obtain ⟨b, o, rfl, hc⟩ := hp
  unfold pickP at h
  have e1 : (Instr.loadAt t (.pointer (some ⟨b, o + off, none⟩))).run P w = (loadVar t ⟨b, o + off, none⟩).run P w := by
    simp [Instr.loadAt, Instr.sureAddr]
  rw [e1]
  unfold loadVar
  simp only [Sem.run_bind, run_isAgg' hd, Result.andThen]
  split at h
  · rename_i hag
    simp only [hag, if_true]
    split at h
    · rename_i hle
      simp only [Option.some.injEq] at h
      subst h
      have hf : ∀ j, j < P.cellsOf t → ∃ u, w.cell? ⟨b, o + off + j, none⟩ = some u ∧ VR C u (cells.getD (off + j) .bad) ∧ (cells.getD (off + j) .bad).isCell = true := fun j hj => by
        have hlt : off + j < cells.length := by omega
        have := hc (off + j) (cells.getD (off + j) .bad) (by simp [hlt])
        rw [Nat.add_assoc]; exact this
      let f : Nat → Value := fun j => (w.cell? ⟨b, o + off + j, none⟩).getD undef
      have hrun := run_loadCells (P := P) w ⟨b, o + off, none⟩ (P.cellsOf t) f (fun j hj => by
        obtain ⟨u, hu, _⟩ := hf j hj
        rw [add_eq, hu]; simp [f, hu])
      refine ⟨.agg ((List.range (P.cellsOf t)).map f).toArray, ?_, ?_⟩
      · simp [run_sizeOf' hpos, hrun]
      · refine .agg _ _ (by simp; omega) (fun c hc' => ?_) (fun i p hi => ?_)
        · obtain ⟨i, hi⟩ := List.mem_iff_getElem?.1 hc'
          simp only [List.getElem?_take] at hi
          split at hi
          · rename_i hiz
            obtain ⟨u, _, _, h3⟩ := hf i hiz
            simp only [List.getElem?_drop] at hi
            simpa [List.getD, hi] using h3
          · cases hi
        · simp only [List.getElem?_take] at hi
          split at hi
          · rename_i hiz
            obtain ⟨u, h1, h2, _⟩ := hf i hiz
            simp only [List.getElem?_drop] at hi
            simp only [List.getD, hi, Option.getD_some] at h2
            simpa [hiz, f, h1] using h2
          · cases hi
    · cases h
  · rename_i hag
    obtain ⟨u, h1, h2, _⟩ := hc off p h
    refine ⟨u, ?_, h2⟩
    simp [hag, h1]
end
end Sim
