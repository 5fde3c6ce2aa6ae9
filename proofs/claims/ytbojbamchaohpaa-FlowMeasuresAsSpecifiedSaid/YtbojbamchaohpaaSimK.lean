/- make, literals, numbers: the ideal operations. -/
import Derived.Test.YtbojbamchaohpaaSimJ
namespace Sim
open Go
set_option linter.unusedVariables false
set_option linter.unusedSimpArgs false
section
variable {P : Program} {w : World} {C : Ctx} {st : Store}
theorem zero_cells {v : Value} {z : Nat} (hz : 0 < z) (hl : (ofConst v).cells.length = z) : v.cells.size = z ∧ CellsAt C v.cells 0 z (ofConst v) :=
  (ofConst_sound v).cellsAt hz hl
theorem getD_made {zc : Array Value} {n k : Nat} (hk : k < n) : (madeCells zc n).getD k undef = zc[k % zc.size]! := by
  simp [madeCells, Array.getD, hk]
theorem made_cells {v : Value} {z n : Nat} (hz : 0 < z) (hl : (ofConst v).cells.length = z) :
    ∀ i e, (List.replicate n (ofConst v))[i]? = some e → CellsAt C (madeCells v.cells (n * z)) (i * z) z e := by
  obtain ⟨h1, h2, h3, h4⟩ := zero_cells (C := C) hz hl
  intro i e he
  have hi : i < n := by have := (List.getElem?_eq_some_iff.1 he).1; simpa using this
  have : e = ofConst v := by
    rw [List.getElem?_replicate, if_pos hi] at he; exact (Option.some.inj he).symm
  subst this
  refine ⟨h2, h3, fun j c hj => ?_⟩
  have hj' : j < z := by have := (List.getElem?_eq_some_iff.1 hj).1; omega
  have hb := mul_bound (z := z) hi (Nat.le_refl _)
  rw [getD_made (by omega), h1, show (i * z + j) % z = j by rw [Nat.mul_comm, Nat.mul_add_mod]; exact Nat.mod_eq_of_lt hj']
  have := h4 j c hj
  simpa [Array.getD, show j < v.cells.size by omega, getElem!_def] using this
theorem make_sound (hi : Inv C st w) {t : TypeId} {n m : Int} (h0 : 0 ≤ n) (h1 : n ≤ m) (h2 : m ≤ 4294967296) (hz : 0 < tvSlc P t) :
    ∃ v w' C', (Instr.makeSlice t (.int .i64 n) (.int .i64 m)).run P w = .ok v w' ∧ C.le C' ∧ Inv C' (st.new (.arr 0 (tvSlc P t) (List.replicate n.toNat (tvZero P (tvElem P t))))) w' ∧ VR C' v (.ref st.next 0 0 n.toNat) ∧
      (∀ id g z0 es0, st.obj id = some (.arr g z0 es0) → ∃ C', C.le C' ∧ Inv C' (st.set id (.arr (g + 1) (tvSlc P t) (List.replicate n.toNat (tvZero P (tvElem P t))))) w' ∧ VR C' v (.ref id (g + 1) 0 n.toNat)) ∧
      (∃ C', C.le C' ∧ Inv C' st w' ∧ VR C' v (.lits (tvSlc P t) (List.replicate n.toNat (tvZero P (tvElem P t))))) := by
  obtain ⟨e, i, zv, he, hin, hzv, hsz, hz16, hby, hzs, hzc, hcell, hel, hz0⟩ := tvSlc_parts (t := t) rfl hz
  have hb : (i.bytes : Int) * m ≤ 281474976710656 := by
    have : (i.bytes : Int) * m ≤ 65536 * 4294967296 := Int.mul_le_mul (by omega) h2 (by omega) (by omega)
    omega
  have hrun := run_make (P := P) w t e i zv he hin hzv .i64 .i64 n m h0 h1 hb (by omega)
  rw [hel, hz0]
  rw [hsz] at hrun
  have hc := made_cells (C := C) (v := zv) (n := m.toNat) hz hzc
  have hel' : ∀ (i : Nat) (e : PV), (List.replicate n.toNat (ofConst zv))[i]? = some e → CellsAt C (madeCells zv.cells (m.toNat * tvSlc P t)) (i * tvSlc P t) (tvSlc P t) e :=
    (fun i e he => hc i e (by
      rw [List.getElem?_replicate] at he ⊢
      split at he
      · rw [if_pos (by omega)]; exact he
      · cases he))
  obtain ⟨C', a, b, c, d⟩ := hi.newArr (T := e) (es := List.replicate n.toNat (ofConst zv)) (z := tvSlc P t) (cap := m.toNat) (cs := madeCells zv.cells (m.toNat * tvSlc P t)) hz (by simp; omega) (by simp only [maxLen]; omega) (by rw [size_madeCells]; exact Nat.le_refl _) hel'
  refine ⟨_, _, C', hrun, a, b, VR.newRef c d (by omega), fun id g z0 es0 ho => ?_, ?_⟩
  case refine_2 =>
    obtain ⟨C3, a3, b3, c3⟩ := hi.lits (T := e) (l := List.replicate n.toNat (ofConst zv)) (z := tvSlc P t) (cap := m.toNat) (cs := madeCells zv.cells (m.toNat * tvSlc P t)) hz (by simp; omega) (by simp only [maxLen]; omega) (by rw [size_madeCells]; exact Nat.le_refl _) hel'
    rw [List.length_replicate] at c3
    exact ⟨C3, a3, b3, c3⟩
  obtain ⟨C2, a2, b2, c2, d2⟩ := hi.reNew ho (T := e) (es := List.replicate n.toNat (ofConst zv)) (z := tvSlc P t) (cap := m.toNat) (cs := madeCells zv.cells (m.toNat * tvSlc P t)) hz (by simp; omega) (by simp only [maxLen]; omega) (by rw [size_madeCells]; exact Nat.le_refl _) hel'
  exact ⟨C2, a2, b2, VR.newRefG c2 d2 (by omega)⟩
def VRL (C : Ctx) (cs : Array Value) (l : List PV) : Prop := cs.size = l.length ∧ (∀ c ∈ l, c.isCell = true) ∧ ∀ i p, l[i]? = some p → VR C (cs.getD i undef) p
theorem foldset (off : Nat) : ∀ (l : List Value) (n : Nat) (cells : Array Value), off + n + l.length ≤ cells.size →
    ((l.zipIdx n).foldl (fun cs (p : Value × Nat) => cs.setIfInBounds (off + p.2) p.1) cells).size = cells.size ∧
    ∀ k, ((l.zipIdx n).foldl (fun cs (p : Value × Nat) => cs.setIfInBounds (off + p.2) p.1) cells).getD k undef = if off + n ≤ k ∧ k < off + n + l.length then l.getD (k - (off + n)) undef else cells.getD k undef
  | [], n, cells, h => ⟨rfl, fun k => by rw [if_neg (by simp)]; rfl⟩
  | v :: l, n, cells, h => by
    have ih := foldset off l (n + 1) (cells.setIfInBounds (off + n) v) (by simp at h ⊢; omega)
    simp only [List.zipIdx_cons, List.foldl_cons]
    refine ⟨by rw [ih.1]; simp, fun k => ?_⟩
    rw [ih.2 k]
    simp only [List.length_cons] at h ⊢
    by_cases h1 : off + (n + 1) ≤ k ∧ k < off + (n + 1) + l.length
    · rw [if_pos h1, if_pos (by omega)]
      rw [show k - (off + n) = (k - (off + (n + 1))) + 1 by omega]; simp
    · rw [if_neg h1]
      by_cases h2 : k = off + n
      · subst h2
        rw [if_pos (by omega)]
        simp [Array.getD, show off + n < cells.size by omega]
      · rw [if_neg (by omega)]
        simp only [Array.getD_eq_getD_getElem?, Array.getElem?_setIfInBounds_ne (fun e => h2 e.symm)]
theorem fill_one {cells : Array Value} {v : Value} {off : Nat} (h : off + v.cells.size ≤ cells.size) :
    (v.cells.zipIdx.foldl (fun cs (c, j) => cs.setIfInBounds (off + j) c) cells).size = cells.size ∧
    ∀ k, (v.cells.zipIdx.foldl (fun cs (c, j) => cs.setIfInBounds (off + j) c) cells).getD k undef = if off ≤ k ∧ k < off + v.cells.size then v.cells.getD (k - off) undef else cells.getD k undef := by
  have := foldset off v.cells.toList 0 cells (by simpa using h)
  have e : v.cells.zipIdx.foldl (fun cs (c, j) => cs.setIfInBounds (off + j) c) cells = (v.cells.toList.zipIdx 0).foldl (fun cs (p : Value × Nat) => cs.setIfInBounds (off + p.2) p.1) cells := by
    rw [← Array.foldl_toList, Array.toList_zipIdx]
  rw [e]
  refine ⟨this.1, fun k => ?_⟩
  rw [this.2 k, Nat.add_zero, Array.length_toList, toList_getD]
theorem fill_sound {place place' : Nat → Option (Nat × Nat)} (hp : ∀ i q, place i = some q → place' i = some q) : ∀ (parts : List (Nat × Value)) (pp : List (Nat × PV)) (cs : Array Value) (l l' : List PV),
    parts.length = pp.length → (∀ (k i : Nat) (v : Value) (j : Nat) (p : PV), parts[k]? = some (i, v) → pp[k]? = some (j, p) → i = j ∧ VR C v p) → VRL C cs l → fillP place l pp = some l' → ∃ cs', Instr.fill place' cs parts = some cs' ∧ VRL C cs' l'
  | [], [], cs, l, l', _, _, hl, h => by simp [fillP] at h; subst h; exact ⟨cs, rfl, hl⟩
  | (i, v) :: parts, (j, p) :: pp, cs, l, l', hlen, hv, hl, h => by
    obtain ⟨rfl, hvp⟩ := hv 0 i v j p rfl rfl
    unfold fillP at h
    split at h
    · cases h
    · rename_i off size hpl
      split at h
      · rename_i hc
        obtain ⟨h1, h2, h3⟩ := hc
        obtain ⟨h4, h5, h6, h7⟩ := hvp.cellsAt h3 h1
        obtain ⟨hl1, hl2, hl3⟩ := hl
        have hsz : off + v.cells.size ≤ cs.size := by omega
        obtain ⟨f1, f2⟩ := fill_one (cells := cs) hsz
        have hl' : VRL C (v.cells.zipIdx.foldl (fun cs (c, j) => cs.setIfInBounds (off + j) c) cs) (splice l off p.cells) := by
          have hs : off + p.cells.length ≤ l.length := by omega
          refine ⟨by rw [f1, splice_length hs, hl1], fun c hc => ?_, fun k q hk => ?_⟩
          · obtain ⟨k, hk⟩ := List.mem_iff_getElem?.1 hc
            rw [splice_get hs] at hk
            split at hk
            · exact h6 _ (List.mem_of_getElem? hk)
            · exact hl2 _ (List.mem_of_getElem? hk)
          · rw [splice_get hs] at hk
            rw [f2 k]
            split at hk
            · rw [if_pos (by omega)]
              have := h7 _ q hk
              simpa using this
            · rw [if_neg (by omega)]; exact hl3 k q hk
        obtain ⟨cs', g1, g2⟩ := fill_sound hp parts pp _ _ l' (by simpa using hlen) (fun k i v j p h1 h2 => hv (k + 1) i v j p h1 h2) hl' h
        refine ⟨cs', ?_, g2⟩
        rw [Instr.fill, hp _ _ hpl]
        simp only [h4]
        rw [if_neg (by simp; omega)]
        exact g1
      · cases h
  | [], _ :: _, _, _, _, h, _, _, _ => by simp at h
  | _ :: _, [], _, _, _, h, _, _, _ => by simp at h
theorem build_sound {t : TypeId} {parts : Array (Nat × Value)} {pp : List (Nat × PV)} (hlen : parts.size = pp.length) (hv : ∀ (k i : Nat) (v : Value) (j : Nat) (p : PV), parts.toList[k]? = some (i, v) → pp[k]? = some (j, p) → i = j ∧ VR C v p)
    {q : PV} (h : buildP P t pp = some q) : ∃ v, (Instr.build t parts).run P w = .ok v w ∧ VR C v q := by
  unfold buildP at h
  split at h
  · rename_i hb
    unfold tvBuild at hb
    simp only [Bool.and_eq_true] at hb
    obtain ⟨hag, hb⟩ := hb
    obtain ⟨i, zv, l0, hi, hzv, hz0, hl0⟩ : ∃ i zv l0, P.info? t = some i ∧ i.zero = some zv ∧ tvZero P t = ofConst zv ∧ ofConst zv = .agg l0 := by
      unfold tvZero at hag ⊢
      cases hi : P.info? t with
      | none => simp [hi, PV.isAgg] at hag
      | some i =>
        cases hz : i.zero with
        | none => simp [hi, hz, PV.isAgg] at hag
        | some zv =>
          simp only [hi, hz, Option.bind_some] at hag ⊢
          cases hc : ofConst zv <;> simp [hc, PV.isAgg] at hag
          exact ⟨i, zv, _, rfl, hz, hc.symm ▸ rfl, hc⟩
    have hzr : (zeroValue t).run P w = .ok zv w := by simp [zeroValue, typeInfo, hi, hzv]
    have hvz := ofConst_sound (C := C) zv
    rw [hl0] at hvz
    obtain ⟨cs, rfl, hn, hcc, hcv⟩ := hvz.agg_get
    have hl : VRL C cs l0 := ⟨hn, hcc, fun i p hi => (hcv i p hi).2⟩
    rw [hz0, hl0] at h
    have hps : parts.toList.length = pp.length := by simpa using hlen
    split at h
    · rename_i n z ha
      obtain ⟨e, he, hez⟩ := tvArr_parts ha
      rw [he] at hb
      obtain ⟨ie, hie⟩ := Option.isSome_iff_exists.1 hb
      simp only [Option.map_eq_some_iff] at h
      obtain ⟨l', hf, rfl⟩ := h
      obtain ⟨cs', h1, h2⟩ := fill_sound (place' := fun i => some (i * z, z)) (fun _ _ h => h) _ _ _ _ _ hps hv hl hf
      refine ⟨.agg cs', ?_, .agg _ _ h2.1 h2.2.1 h2.2.2⟩
      have hsz : ie.size = z := by rw [← hez]; simp [Program.cellsOf, hie]
      refine run_build w t parts cs' ?_
      simp [Program.built, hi, he, hzv, hie, Value.cells, hsz, h1]
    · rename_i ha
      split at hb
      · rename_i fs hfs
        simp only [Option.map_eq_some_iff] at h
        obtain ⟨l', hf, rfl⟩ := h
        have hall := List.all_eq_true.1 hb
        have hplaces : ∃ places : List (Nat × Nat), fs.toList.mapM (fun f => (P.info? f.type).map fun i => (f.offset, i.size)) = some places ∧ ∀ (k : Nat) (f : Field), fs.toList[k]? = some f → places[k]? = some (f.offset, P.cellsOf f.type) := by
          clear hf hb hfs
          generalize fs.toList = l at hall ⊢
          induction l with
          | nil => exact ⟨[], rfl, by intro k f h; simp at h⟩
          | cons f l ih =>
            obtain ⟨pl, h1, h2⟩ := ih (fun x hx => hall x (by simp [hx]))
            obtain ⟨fi, hfi⟩ := Option.isSome_iff_exists.1 (hall f (by simp))
            refine ⟨(f.offset, fi.size) :: pl, by simp [List.mapM_cons, hfi, h1], fun k g hk => ?_⟩
            cases k with
            | zero => simp at hk; subst hk; simp [Program.cellsOf, hfi]
            | succ k => simpa using h2 k g (by simpa using hk)
        obtain ⟨places, hpl, hpk⟩ := hplaces
        obtain ⟨cs', h1, h2⟩ := fill_sound (place' := fun i => places.toArray[i]?) (fun i q hq => by
          simp only [Option.map_eq_some_iff] at hq
          obtain ⟨⟨o, z, u⟩, hf2, rfl⟩ := hq
          obtain ⟨fs', x, g1, g2, g3, g4, g5⟩ := tvFld_parts hf2
          rw [hfs] at g1; cases g1
          have := hpk i x (by rw [Array.getElem?_toList]; exact g2)
          simp [this, g3, g4]) _ _ _ _ _ hps hv hl hf
        refine ⟨.agg cs', ?_, .agg _ _ h2.1 h2.2.1 h2.2.2⟩
        refine run_build w t parts cs' ?_
        simp only [Program.built, hi, hfs, hzv, hpl, Value.cells]
        exact h1
      · rename_i n e he
        exfalso
        simp [tvArr, he] at ha
      · cases hb
  · cases h
theorem elems_sound {z : Nat} (hz : 0 < z) {place : Nat → Option (Nat × Nat)} (hp : ∀ i, place i = some (i * z, z)) : ∀ (parts : List (Nat × Value)) (pp : List (Nat × PV)) (cs : Array Value) (l l' : List PV),
    parts.length = pp.length → (∀ (k i : Nat) (v : Value) (j : Nat) (p : PV), parts[k]? = some (i, v) → pp[k]? = some (j, p) → i = j ∧ VR C v p) → l.length * z ≤ cs.size → (∀ i e, l[i]? = some e → CellsAt C cs (i * z) z e) →
    buildElems z l pp = some l' → ∃ cs', Instr.fill place cs parts = some cs' ∧ cs'.size = cs.size ∧ l'.length = l.length ∧ ∀ i e, l'[i]? = some e → CellsAt C cs' (i * z) z e
  | [], [], cs, l, l', _, _, hs, hl, h => by simp [buildElems] at h; subst h; exact ⟨cs, rfl, rfl, rfl, hl⟩
  | (i, v) :: parts, (j, p) :: pp, cs, l, l', hlen, hv, hs, hl, h => by
    obtain ⟨rfl, hvp⟩ := hv 0 i v j p rfl rfl
    unfold buildElems at h
    split at h
    · rename_i hc
      obtain ⟨h1, h2⟩ := hc
      obtain ⟨h4, h5, h6, h7⟩ := hvp.cellsAt hz h2
      have hmb := mul_bound (z := z) h1 (Nat.le_refl _)
      have hsz : i * z + v.cells.size ≤ cs.size := by omega
      obtain ⟨f1, f2⟩ := fill_one (cells := cs) hsz
      obtain ⟨cs', g1, g2, g3, g4⟩ := elems_sound hz hp parts pp (v.cells.zipIdx.foldl (fun cs (c, j) => cs.setIfInBounds (i * z + j) c) cs) (l.set i p) l' (by simpa using hlen) (fun k i v j p h1 h2 => hv (k + 1) i v j p h1 h2) (by rw [f1]; simpa using hs)
        (fun k e hk => by
          by_cases hik : k = i
          · subst hik
            rw [List.getElem?_set_self h1] at hk
            cases hk
            refine ⟨h5, h6, fun j c hj => ?_⟩
            have hj' : j < z := by have := (List.getElem?_eq_some_iff.1 hj).1; omega
            rw [f2, if_pos (by omega), show k * z + j - k * z = j by omega]
            have := h7 j c hj
            rw [Nat.zero_add] at this; exact this
          · rw [List.getElem?_set_ne (fun e => hik e.symm)] at hk
            refine (hl k e hk).congr (fun j hj => ?_)
            rw [f2]
            refine if_neg (fun hr => ?_)
            rcases Nat.lt_or_ge k i with h12 | h12
            · have := mul_bound (z := z) h12 (Nat.le_refl _); omega
            · have := mul_bound (z := z) (show i < k by omega) (Nat.le_refl _); omega) h
      refine ⟨cs', ?_, by rw [g2, f1], by simpa using g3, g4⟩
      rw [Instr.fill, hp]
      simp only [h4]
      rw [if_neg (by simp; omega)]
      exact g1
    · cases h
  | [], _ :: _, _, _, _, h, _, _, _, _ => by simp at h
  | _ :: _, [], _, _, _, h, _, _, _, _ => by simp at h
theorem run_buildSlice {t e : TypeId} {i : TypeInfo} {zv : Value} {z len : Nat} (he : P.underlying t = some (.slice e)) (hi : P.info? e = some i) (hz : i.zero = some zv) (hsz : i.size = z) (hzs : zv.cells.size = z)
    (hmax : len * z ≤ 16777216) {parts : Array (Nat × Value)} {cs' : Array Value} (hf : Instr.fill (fun i => some (i * z, z)) (madeCells zv.cells (len * z)) parts.toList = some cs') :
    (Instr.buildSlice t len parts).run P w = .ok (.slice (some ⟨w.heap.size, 0, none⟩) len len) (w.alloc (.cells cs' e)) := by
  have hm : ¬ (16777216 < len * z) := by omega
  have hso : (Go.sizeOf e).run P w = .ok z w := by simp [Go.sizeOf, typeInfo, hi, hsz]
  by_cases h0 : len * z = 0
  · have e1 : (Array.range (len * z)).map ((#[] : Array Value)[· % (#[] : Array Value).size]!) = madeCells zv.cells (len * z) := by
      rw [h0]; simp [madeCells, Array.range_zero']
    rw [← e1] at hf
    simp only [Instr.buildSlice, Sem.run_bind, run_underlying he, Result.andThen, hso]
    rw [if_neg (by omega)]
    simp only [h0, if_true, Sem.run_bind, Sem.run_pure, Result.andThen]
    rw [h0] at hf
    simp only [hf]
    simp [newRow]
  · simp only [Instr.buildSlice, Sem.run_bind, run_underlying he, Result.andThen, hso]
    rw [if_neg (by omega)]
    simp only [h0, if_false, Sem.run_bind, Sem.run_pure, Result.andThen]
    have hzr : (zeroValue e).run P w = .ok zv w := by simp [zeroValue, typeInfo, hi, hz]
    simp only [hzr]
    have : Instr.fill (fun i => some (i * z, z)) ((Array.range (len * z)).map (zv.cells[· % zv.cells.size]!)) parts.toList = some cs' := hf
    simp only [this]
    simp [newRow]
theorem buildSlice_sound (hi : Inv C st w) {t : TypeId} {len : Nat} {parts : Array (Nat × Value)} {pp : List (Nat × PV)} (hlen : parts.size = pp.length) (hv : ∀ (k i : Nat) (v : Value) (j : Nat) (p : PV), parts.toList[k]? = some (i, v) → pp[k]? = some (j, p) → i = j ∧ VR C v p)
    (hz : 0 < tvSlc P t) (hmax : len * tvSlc P t ≤ 16777216) {l : List PV} (h : buildElems (tvSlc P t) (List.replicate len (tvZero P (tvElem P t))) pp = some l) :
    ∃ v w', (Instr.buildSlice t len parts).run P w = .ok v w' ∧ (∃ C', C.le C' ∧ Inv C' st w' ∧ VR C' v (.lits (tvSlc P t) l)) ∧
      (∃ C', C.le C' ∧ Inv C' (st.new (.arr 0 (tvSlc P t) l)) w' ∧ VR C' v (.ref st.next 0 0 len)) ∧
      (∀ id g z0 es0, st.obj id = some (.arr g z0 es0) → ∃ C', C.le C' ∧ Inv C' (st.set id (.arr (g + 1) (tvSlc P t) l)) w' ∧ VR C' v (.ref id (g + 1) 0 len)) := by
  obtain ⟨e, i, zv, he, hin, hzv, hsz, hz16, hby, hzs, hzc, hcell, hel, hz0⟩ := tvSlc_parts (t := t) rfl hz
  rw [hel, hz0] at h
  have hps : parts.toList.length = pp.length := by simpa using hlen
  obtain ⟨cs', h1, h2, h3, h4⟩ := elems_sound (C := C) hz (place := fun i => some (i * tvSlc P t, tvSlc P t)) (fun _ => rfl) _ _ (madeCells zv.cells (len * tvSlc P t)) _ l hps hv (by simp [size_madeCells]) (made_cells hz hzc) h
  simp only [List.length_replicate, size_madeCells] at h2 h3
  have hlm : len ≤ maxLen := by
    have : len * 1 ≤ len * tvSlc P t := Nat.mul_le_mul_left _ hz
    simp only [maxLen]; omega
  refine ⟨_, _, run_buildSlice he hin hzv hsz hzs hmax h1, ?_, ?_, fun id g z0 es0 ho => ?_⟩
  · obtain ⟨C', a, b, c⟩ := hi.lits (T := e) (cap := len) hz (by omega) hlm (by omega) h4
    rw [h3] at c
    exact ⟨C', a, b, c⟩
  · obtain ⟨C', a, b, c, d⟩ := hi.newArr (T := e) (cap := len) hz (by omega) hlm (by omega) h4
    exact ⟨C', a, b, VR.newRef c d (Nat.le_refl _)⟩
  · obtain ⟨C', a, b, c, d⟩ := hi.reNew ho (T := e) (cap := len) hz (by omega) hlm (by omega) h4
    exact ⟨C', a, b, VR.newRefG c d (Nat.le_refl _)⟩
theorem inv_int {v : Value} {k : IntKind} {n : Int} (h : VR C v (.int k n)) : v = .int k n := by cases h; rfl
theorem inv_bool {v : Value} {b : Bool} (h : VR C v (.bool b)) : v = .bool b := by cases h; rfl
theorem inv_str {v : Value} {s : List UInt8} (h : VR C v (.str s)) : ∃ b : ByteArray, v = .string b ∧ s = b.data.toList ∧ s.length ≤ maxLen := by cases h; exact ⟨_, rfl, by assumption, by assumption⟩
theorem binI_sound {op : BinOp} {k : IntKind} {a b : Int} {p : PV} (hop : op ≠ .shl ∧ op ≠ .shr) (h : binI op k a b = some p) {t : TypeId} :
    ∃ v, (binOp op t (.int k a) (.int k b)).run P w = .ok v w ∧ VR C v p := by
  have e1 : (a == b) = decide (a = b) := by by_cases h : a = b <;> simp [h]
  have e2 : (a != b) = decide (¬ a = b) := by by_cases h : a = b <;> simp [h]
  cases op <;> simp only [binI, intBitsP, Option.some.injEq, Option.map_some] at h <;> try (first | (cases h; done) | (exact absurd rfl hop.1) | (exact absurd rfl hop.2))
  case quo => split at h; · cases h
              · rename_i hb; simp only [Option.some.injEq] at h; subst h; exact ⟨_, by simp [binOp, Op.intDiv, hb], .int _ _⟩
  case rem => split at h; · cases h
              · rename_i hb; simp only [Option.some.injEq] at h; subst h; exact ⟨_, by simp [binOp, Op.intDiv, hb], .int _ _⟩
  case eql => subst h; exact ⟨.bool (decide (a = b)), by simp only [binOp, ← e1]; simp [Op.intCmp], .bool _⟩
  case neq => subst h; exact ⟨.bool (decide (¬ a = b)), by simp only [binOp, ← e2]; simp [Op.intCmp], .bool _⟩
  all_goals (subst h; refine ⟨_, ?_, by constructor⟩; simp [binOp, Op.intArith, Op.intBits, Op.intCmp])
end
end Sim
