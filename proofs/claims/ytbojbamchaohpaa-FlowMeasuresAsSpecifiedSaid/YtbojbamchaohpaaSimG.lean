/- Fields, indices, parts of slices. -/
import Derived.Test.YtbojbamchaohpaaSimF
namespace Sim
open Go
set_option linter.unusedVariables false
set_option linter.unusedSimpArgs false
section
variable {P : Program} {w : World} {C : Ctx} {st : Store}
theorem tvFld_parts {t : TypeId} {f o z : Nat} {u : TypeId} (h : tvFld P t f = some (o, z, u)) : ∃ (fs : Array Field) (x : Field), P.underlying t = some (.struct fs) ∧ fs[f]? = some x ∧ x.offset = o ∧ P.cellsOf x.type = z ∧ x.type = u := by
 unfold tvFld at h
 split at h
 ·rename_i fs hfs
  simp only [Option.map_eq_some_iff, Prod.mk.injEq] at h
  obtain ⟨x, hx, h1, h2, h3⟩ := h
  exact ⟨fs, x, hfs, hx, h1, h2, h3⟩
 ·cases h
theorem fieldP_sound (hi : Inv C st w) {v : Value} {p q : PV} (hv : VR C v p) {o : Nat} (h : fieldP st p o = some q) :
  ∃ b k, v = .pointer (some ⟨b, k, none⟩) ∧ VR C (.pointer (some ⟨b, k + o, none⟩)) q := by
 unfold fieldP at h
 split at h
 ·rename_i cells off
  cases hv with
  | vptr b k _ _ hc hi h' =>
   simp at h; subst h
   refine ⟨b, k + off, rfl, ?_⟩
   rw [Nat.add_assoc]; exact .vptr b k _ cells hc hi h'
 ·rename_i id g i x
  cases hes : st.arr? id g with
  | none => rw [hes] at h; cases h
  | some es =>
   rw [hes] at h
   simp at h; subst h
   obtain ⟨L, hL, _, hg, _⟩ := hi.arr (z := es.1) (es := es.2) hes
   cases hv with
   | ptr _ _ _ _ _ hv hb hg' h' =>
    refine ⟨L.blk, L.off + i * L.size + x, h' L hL hg.symm, ?_⟩
    refine .ptr _ _ _ _ _ rfl hb hg' (fun L' hL' _ => ?_)
    rw [hL] at hL'; cases hL'
    rw [Nat.add_assoc]
 ·cases h
theorem run_fieldAt' {t : TypeId} {f o z b k : Nat} {u : TypeId} (h : tvFld P t f = some (o, z, u)) (hz : 0 < z) :
  (Instr.fieldAt t (.pointer (some ⟨b, k, none⟩)) f).run P w = .ok (.pointer (some ⟨b, k + o, none⟩)) w := by
 obtain ⟨fs, x, h1, h2, h3, h4, h5⟩ := tvFld_parts h
 have hs := run_sizeOf' (P := P) (w := w) (t := x.type) (by omega)
 have hne : ¬ P.cellsOf x.type = 0 := by omega
 simp [Instr.fieldAt, run_underlying h1, h2, Instr.sureAddr, fieldPlace, hs, hne, add_eq, h3]
theorem run_indexAt_slc {t e : TypeId} {b o len cap z : Nat} {k : IntKind} {i : Int} (ht : P.underlying t = some (.slice e)) (hz : P.cellsOf e = z) (hp : 0 < z) (h0 : 0 ≤ i) (h1 : i < len) :
  (Instr.indexAt t (.slice (some ⟨b, o, none⟩) len cap) (.int k i)).run P w = .ok (.pointer (some ⟨b, o + i.toNat * z, none⟩)) w := by
 have hs := run_sizeOf' (P := P) (w := w) (t := e) (by omega)
 simp [Instr.indexAt, asIntOf, run_underlying ht, h0, h1, hs, hz, add_eq]
theorem run_indexAt_arr {t e : TypeId} {b o n z : Nat} {k : IntKind} {i : Int} (ht : P.underlying t = some (.array n e)) (hz : P.cellsOf e = z) (hp : 0 < z) (h0 : 0 ≤ i) (h1 : i < n) :
  (Instr.indexAt t (.pointer (some ⟨b, o, none⟩)) (.int k i)).run P w = .ok (.pointer (some ⟨b, o + i.toNat * z, none⟩)) w := by
 have hs := run_sizeOf' (P := P) (w := w) (t := e) (by omega)
 simp [Instr.indexAt, asIntOf, run_underlying ht, h0, h1, hs, hz, add_eq, Instr.sureAddr]
theorem tvArr_parts {t : TypeId} {n z : Nat} (h : tvArr P t = some (n, z)) : ∃ e, P.underlying t = some (.array n e) ∧ P.cellsOf e = z := by
 unfold tvArr at h
 split at h
 ·rename_i n' e he
  simp only [Option.some.injEq, Prod.mk.injEq] at h
  obtain ⟨rfl, rfl⟩ := h
  exact ⟨e, he, rfl⟩
 ·cases h
theorem index_sound (hi : Inv C st w) {x : Value} {px q : PV} (hx : VR C x px) {t : TypeId} {k : IntKind} {i : Int} (h : indexP P st t px i = some q) :
  ∃ v, (Instr.indexAt t x (.int k i)).run P w = .ok v w ∧ VR C v q := by
 unfold indexP at h
 split at h
 ·rename_i z l
  split at h
  ·rename_i hc
   obtain ⟨h0, h1, h2, h3⟩ := hc
   simp at h; subst h
   subst h2
   obtain ⟨e, _, _, ht, _, _, _, _, _, _, _, hz, _⟩ := tvSlc_parts (t := t) rfl h3
   have hlt : i.toNat < l.length := by omega
   cases hx with
   | lits b o size cap _ hcap hmax hszz hl hi' hv =>
    have hmem : nth l i.toNat ∈ l := List.mem_of_getElem? (nth_some hlt)
    refine ⟨_, run_indexAt_slc ht hz h3 h0 h1, ?_⟩
    refine .vptr b (o + i.toNat * tvSlc P t) 0 _ (hl _ hmem).2 (fun j hj => hi' _ j hlt (by have := (hl _ hmem).1; omega)) (fun j c hj => hv _ j _ c (nth_some hlt) hj)
   | lits0 a cap z => simp at hlt
  ·cases h
 ·rename_i id gen s n
  cases hes : st.arr? id gen with
  | none => rw [hes] at h; cases h
  | some q =>
   obtain ⟨z, es⟩ := q
   rw [hes] at h
   simp only [Option.bind_some] at h
   split at h
   ·rename_i hc
    obtain ⟨h0, h1, h2, h3⟩ := hc
    simp at h; subst h
    obtain ⟨L, hL, hb, hg, hLz, h4, hcap, hat⟩ := hi.arr hes
    rw [h3] at h4
    obtain ⟨e, _, _, ht, _, _, _, _, _, _, _, hz, _⟩ := tvSlc_parts (t := t) rfl h4
    have hlt : s + i.toNat < es.length := by omega
    have hsz : L.size = tvSlc P t := by rw [hLz, h3]
    cases hx with
    | ref _ _ _ _ _ hv hb' hg' hr =>
     obtain ⟨a, rfl, h10, h11⟩ := hr L hL hg.symm
     have ha := h11 (by omega)
     subst ha
     refine ⟨_, run_indexAt_slc ht hz h4 h0 (by omega), ?_⟩
     refine .ptr _ _ _ _ _ rfl hb' hg' (fun L' hL' _ => ?_)
     rw [hL] at hL'; cases hL'
     rw [← hsz, Nat.add_mul]
     congr 3; omega
   ·cases h
 ·rename_i cells off
  cases ha : tvArr P t with
  | none => rw [ha] at h; cases h
  | some nz =>
   obtain ⟨n, z⟩ := nz
   rw [ha] at h
   simp only [Option.bind_some] at h
   split at h
   ·rename_i hc
    simp at h; subst h
    obtain ⟨e, ht, hz⟩ := tvArr_parts ha
    cases hx with
    | vptr b o _ _ hcc hii hv =>
     refine ⟨_, run_indexAt_arr ht hz hc.2.2 hc.1 hc.2.1, ?_⟩
     rw [Nat.add_assoc]; exact .vptr b o _ cells hcc hii hv
   ·cases h
 ·rename_i id gen idx off
  cases hes : st.arr? id gen with
  | none => rw [hes] at h; cases h
  | some es =>
   rw [hes] at h
   simp only [Option.bind_some] at h
   cases ha : tvArr P t with
   | none => rw [ha] at h; cases h
   | some nz =>
    obtain ⟨n, z⟩ := nz
    rw [ha] at h
    simp only [Option.bind_some] at h
    split at h
    ·rename_i hc
     simp at h; subst h
     obtain ⟨e, ht, hz⟩ := tvArr_parts ha
     obtain ⟨L, hL, _, hg, _⟩ := hi.arr (z := es.1) (es := es.2) hes
     cases hx with
     | ptr _ _ _ _ _ hv hb hg' h' =>
      rw [h' L hL hg.symm]
      refine ⟨_, run_indexAt_arr ht hz hc.2.2 hc.1 hc.2.1, ?_⟩
      refine .ptr _ _ _ _ _ rfl hb hg' (fun L' hL' _ => ?_)
      rw [hL] at hL'; cases hL'
      rw [Nat.add_assoc]
    ·cases h
 ·cases h
theorem VR.agg_get {v : Value} {l : List PV} (h : VR C v (.agg l)) : ∃ cs : Array Value, v = .agg cs ∧ cs.size = l.length ∧ (∀ c ∈ l, c.isCell = true) ∧ ∀ i p, l[i]? = some p → cs[i]? = some (cs.getD i undef) ∧ VR C (cs.getD i undef) p := by
 cases h with
 | agg cs _ hn hc h =>
  refine ⟨cs, rfl, hn, hc, fun i p hi => ⟨?_, h i p hi⟩⟩
  have : i < cs.size := by have := (List.getElem?_eq_some_iff.1 hi).1; omega
  simp [Array.getD, this]
theorem pick_sound {cs : Array Value} {l : List PV} (hn : cs.size = l.length) (hc : ∀ c ∈ l, c.isCell = true) (hv : ∀ i p, l[i]? = some p → VR C (cs.getD i undef) p) {t : TypeId} {z : Nat} {ag : Bool}
  (ht : tvLd P t = some (z, ag)) {off : Nat} {p : PV} (h : pickP l off z ag = some p) : ∃ u, (part t cs off).run P w = .ok u w ∧ VR C u p := by
 obtain ⟨⟨d, hd⟩, hpos, rfl, rfl⟩ := tvLd_parts ht
 unfold pickP at h
 unfold part
 simp only [Sem.run_bind, run_isAgg' hd, Result.andThen]
 split at h
 ·rename_i hag
  simp only [hag, if_true]
  split at h
  ·rename_i hle
   simp only [Option.some.injEq] at h
   subst h
   refine ⟨.agg (cs.extract off (off + P.cellsOf t)), by simp [run_sizeOf' hpos], .agg _ _ (by simp; omega) (fun c hc' => ?_) (fun i p hi => ?_)⟩
   ·exact hc c (List.mem_of_mem_drop (List.mem_of_mem_take hc'))
   ·simp only [List.getElem?_take] at hi
    split at hi
    ·rename_i hiz
     simp only [List.getElem?_drop] at hi
     have := hv _ _ hi
     have h1 : off + i < cs.size := by have := (List.getElem?_eq_some_iff.1 hi).1; omega
     have h2 : i < (cs.extract off (off + P.cellsOf t)).size := by simp; omega
     simp only [Array.getD, h1, h2, dif_pos] at this ⊢
     simpa [Array.getInternal_eq_getElem, Array.getElem_extract] using this
    ·cases hi
  ·cases h
 ·rename_i hag
  have h1 : off < cs.size := by have := (List.getElem?_eq_some_iff.1 h).1; omega
  refine ⟨cs.getD off undef, ?_, hv _ _ h⟩
  simp [hag, Array.getElem?_eq_getElem h1, Array.getD, h1]
theorem field_sound {v : Value} {l : List PV} (h : VR C v (.agg l)) {t u : TypeId} {f o z' z : Nat} {ag : Bool} (hf : tvFld P t f = some (o, z', u)) (hl : tvLd P u = some (z, ag)) {p : PV}
  (hp : pickP l o z ag = some p) : ∃ x, (Instr.field t v f).run P w = .ok x w ∧ VR C x p := by
 obtain ⟨fs, x, h1, h2, h3, h4, h5⟩ := tvFld_parts hf
 obtain ⟨cs, rfl, hn, hc, hv⟩ := h.agg_get
 obtain ⟨y, hy, hy'⟩ := pick_sound (P := P) (w := w) hn hc (fun i p hi => (hv i p hi).2) hl hp
 refine ⟨y, ?_, hy'⟩
 simp [Instr.field, run_underlying h1, h2, asAgg, h3, h5, hy]
theorem extract_sound {v : Value} {l : List PV} (h : VR C v (.tuple l)) {i : Nat} {p : PV} (hp : l[i]? = some p) : ∃ x, (Instr.extract v i).run P w = .ok x w ∧ VR C x p := by
 cases h with
 | tuple cs _ hn h =>
  have : i < cs.size := by have := (List.getElem?_eq_some_iff.1 hp).1; omega
  refine ⟨cs.getD i undef, ?_, h i p hp⟩
  simp [Instr.extract, Array.getElem?_eq_getElem this, Array.getD, this]
theorem tvStr_parts {t : TypeId} (h : tvStr P t = true) : P.underlying t = some .string := by
 unfold tvStr at h; split at h
 ·assumption
 ·cases h
theorem indexV_sound {x : Value} {px q : PV} (hx : VR C x px) {t : TypeId} {k : IntKind} {i : Int} (h : indexV P t px i = some q) :
  ∃ v, (Instr.index t x (.int k i)).run P w = .ok v w ∧ VR C v q := by
 unfold indexV at h
 split at h
 ·rename_i s
  split at h
  ·rename_i hc
   obtain ⟨h0, h1, h2⟩ := hc
   simp only [Option.some.injEq] at h; subst h
   cases hx with
   | str s _ hs _ =>
    subst hs
    have hlt : i.toNat < s.data.size := by rw [Array.length_toList] at h1; omega
    refine ⟨.int .u8 ((s.data.toList.getD i.toNat 0).toNat : Int), ?_, .int _ _⟩
    have hb : s[i.toNat]? = some (s.data.toList.getD i.toNat 0) := by
     have e1 : s[i.toNat]? = s.data[i.toNat]? := by
      show (if h : i.toNat < s.size then some (s[i.toNat]'h) else none) = _
      have h3 : i.toNat < s.size := hlt
      rw [dif_pos h3, Array.getElem?_eq_getElem hlt]; rfl
     rw [e1, Array.getElem?_eq_getElem hlt]
     simp [List.getD, Array.getElem?_eq_getElem hlt]
    simp [Instr.index, asIntOf, run_underlying (tvStr_parts h2), h0, hb]
  ·cases h
 ·rename_i cs
  cases ha : tvArrE P t with
  | none => rw [ha] at h; cases h
  | some ne =>
   obtain ⟨n, e⟩ := ne
   rw [ha] at h
   simp only [Option.bind_some] at h
   cases hl : tvLd P e with
   | none => rw [hl] at h; cases h
   | some za =>
    obtain ⟨z, ag⟩ := za
    rw [hl] at h
    simp only [Option.bind_some] at h
    split at h
    ·rename_i hc
     obtain ⟨h0, h1⟩ := hc
     have ht : P.underlying t = some (.array n e) := by
      unfold tvArrE at ha; split at ha
      ·simp only [Option.some.injEq, Prod.mk.injEq] at ha; obtain ⟨rfl, rfl⟩ := ha; assumption
      ·cases ha
     obtain ⟨cs, rfl, hn, hcc, hv⟩ := hx.agg_get
     obtain ⟨y, hy, hy'⟩ := pick_sound (P := P) (w := w) hn hcc (fun i p hi => (hv i p hi).2) hl h
     refine ⟨y, ?_, hy'⟩
     obtain ⟨_, hpos, rfl, _⟩ := tvLd_parts hl
     simp [Instr.index, asIntOf, run_underlying ht, h0, h1, run_sizeOf' hpos, hy]
    ·cases h
 ·cases h
end
end Sim
