/- A sorting function of the library, at arrays of structs of numbers: its entry of a table. -/
import Derived.Test.YtmgklnbhbomlnaaSimP
import Derived.Shelf.SlSortCmp.NoneTotal
namespace Sim
open Go Go.Proofs Go.Shelf Go.RowKit Go.Lib Go.Sort
set_option linter.unusedVariables false
set_option linter.unusedSimpArgs false
variable {P : Program} {ρ : Ren} {α : Type} [Inhabited α]
/-- The machine's value of a number or a truth value. -/
def toV : PV → Value
  | .int k n => .int k n
  | .bool b => .bool b
  | _ => undef
def plainC : PV → Bool
  | .int _ _ | .bool _ => true
  | _ => false
theorem toV_vr {C : Ctx} {p : PV} (h : plainC p = true) : VR C (toV p) p := by
  cases p <;> simp [plainC] at h
  · exact .bool _
  · exact .int _ _
theorem toV_eq {C : Ctx} {v : Value} {p : PV} (h : plainC p = true) (hv : VR C v p) : v = toV p := by
  cases p <;> simp [plainC] at h
  · cases hv; rfl
  · cases hv; rfl
theorem toV_one {p : PV} (h : plainC p = true) : (toV p).oneCell' = true := by
  cases p <;> simp [plainC] at h <;> rfl
theorem plain_isCell {p : PV} (h : plainC p = true) : p.isCell = true := by
  cases p <;> simp [plainC] at h <;> rfl
theorem plain_scal {p : PV} (h : plainC p = true) : p.scal1 = true := by
  cases p <;> simp [plainC] at h <;> rfl

theorem flat_div {z i j : Nat} (h : j < z) : (i * z + j) / z = i ∧ (i * z + j) % z = j := by
  have hz : 0 < z := by omega
  rw [Nat.mul_comm, Nat.mul_add_div hz, Nat.div_eq_of_lt h, Nat.mul_add_mod, Nat.mod_eq_of_lt h]
  exact ⟨by omega, rfl⟩
theorem flat_lt {z i j n : Nat} (hi : i < n) (h : j < z) : i * z + j < n * z := by
  have := Nat.mul_le_mul_right z (show i + 1 ≤ n by omega)
  rw [Nat.add_mul] at this; omega

/-- **The contract of slices.SortFunc at structs of numbers, as an entry.** -/
theorem vcs_of (L : SlLaysF0.n6 P ρ) {z : Nat} (hz : 0 < z) (aE : ∀ w, (isAgg (ρ.t 24)).run P w = .ok true w) (zE : ∀ w, (Go.sizeOf (ρ.t 24)).run P w = .ok z w) (enc : α → List PV) (hk : ∀ x, (enc x).length = z) (hp : ∀ x, ∀ c ∈ enc x, plainC c = true)
    (cf : α → α → Int) (hO : SWO (ltOf cf)) (hT : ∀ x y, (ltOf cf) x y = false → (ltOf cf) y x = false → x = y) (g : Nat) (eg : ∀ args w, (callFunc g args).run P w = .ok (.enter g args) w)
    (hcmp : ∀ (x y : α) (W : World), Calls P g #[.agg ((enc x).map toV).toArray, .agg ((enc y).map toV).toArray] W fun e w' => e = .returned (.int .i64 (cf x y)) ∧ ∃ q os', w' = grow (W.drewN q) os')
    (d : List α) (hsz : d.length < 4611686018427387904) :
    VCS P (ρ.f 6) g z (d.map fun x => .agg (enc x)) ((d.mergeSort fun x y => !(ltOf cf) y x).map fun x => .agg (enc x)) := by
  have hk' : ∀ x, ((enc x).map toV).length = z := fun x => by rw [List.length_map, hk]
  refine ⟨by simp, fun e he => ?_, fun w blk off cap cs T hb hn hfit hc => ?_⟩
  · obtain ⟨x, _, rfl⟩ := List.mem_map.1 he
    exact List.all_eq_true.2 fun c hcm => plain_scal (hp x c hcm)
  · rw [List.length_map] at hn hfit ⊢
    have hlt : blk < w.heap.size := (Array.getElem?_eq_some_iff.1 hb).1
    have flat : ∀ (l : List α) (i j : Nat) (c : PV), j < z → ∀ hi : i < l.length, (enc l[i])[j]? = some c → (flatK (fun x => (enc x).map toV) z l.toArray)[i * z + j]! = toV c := by
      intro l i j c hj hi hcj
      rw [get_flatK _ _ _ _ (by simpa using flat_lt hi hj), (flat_div hj).1, (flat_div hj).2]
      have h1 : l.toArray[i]! = l[i] := by rw [getElem!_pos _ _ (by simpa using hi)]; simp
      rw [h1]
      have h2 := (List.getElem?_eq_some_iff.1 hcj)
      obtain ⟨h2, rfl⟩ := h2
      simp [h2]
    have hH : HoldsK (fun x => (enc x).map toV) z w blk off d.toArray := by
      intro t ht
      rw [size_flatK] at ht
      have ht : t < d.length * z := by simpa using ht
      have hi : t / z < d.length := Nat.div_lt_of_lt_mul (by rw [Nat.mul_comm]; exact ht)
      have hj : t % z < z := Nat.mod_lt _ hz
      have htd : t / z * z + t % z = t := by rw [Nat.mul_comm]; exact Nat.div_add_mod t z
      have hcj : (enc d[t / z])[t % z]? = some ((enc d[t / z])[t % z]'(by rw [hk]; exact hj)) := List.getElem?_eq_getElem _
      obtain ⟨c1, c2, c3⟩ := hc (t / z) (.agg (enc d[t / z])) (by rw [List.getElem?_map, List.getElem?_eq_getElem hi]; rfl) ⟨fun _ _ => none, fun _ => none, fun _ => False, 0, fun _ => none, w.os, #[], fun _ => false, fun _ => false⟩
      have h3 := toV_eq (hp _ _ (List.getElem_mem _)) (c3 (t % z) _ hcj)
      rw [Nat.add_assoc, htd] at h3
      have hcs : off + t < cs.size := by omega
      refine ⟨?_, by simp [World.frozen?, hb]⟩
      have := flat d (t / z) (t % z) _ hj hi hcj
      rw [htd] at this
      simp only [id_eq]
      rw [this, ← h3]
      simp [World.cell?, hb, Array.getD_eq_getD_getElem?, hcs]
    refine (AnyQ.slices_SortFunc_total L z aE zE (fun x => (enc x).map toV) hk' (fun x v hv => ?_) cf hO g #[] blk off cap d.toArray w eg (fun m os dk hs x y => by simpa using hcmp x y _) hH hlt (by simpa using hsz) hT).mono ?_
    · obtain ⟨c, hcm, rfl⟩ := List.mem_map.1 hv
      exact toV_one (hp x c hcm)
    · rintro e w' ⟨he, n, os, rfl⟩
      generalize hd' : (d.mergeSort fun x y => !(ltOf cf) y x) = d' at *
      have hl' : d'.length = d.length := by rw [← hd']; simp
      refine ⟨he, ⟨rfl, rfl⟩, ?_, fun b hb' hne => ?_, putCells id off (flatK (fun x => (enc x).map toV) z d'.toArray) cs, ?_, by simp [putCells], fun i e hi C => ?_⟩
      · simp [sortWorldK, putRowK, putRow, mapBlock, Sort.ahead, grow]
      · simp only [sortWorldK, putRowK, putRow, mapBlock, Sort.ahead, grow]
        rw [Array.getElem?_append_left (by simpa using hb'), Array.getElem?_modify, if_neg (Ne.symm hne)]
      · simp only [sortWorldK, putRowK, putRow, mapBlock, Sort.ahead, grow, Array.getElem?_append, Array.size_modify, hlt, if_true, Array.getElem?_modify, hb, Option.map_some, onCells]
      · rw [List.getElem?_map, Option.map_eq_some_iff] at hi
        obtain ⟨x, hx, rfl⟩ := hi
        obtain ⟨hi, rfl⟩ := List.getElem?_eq_some_iff.1 hx
        refine ⟨hk _, fun c hcm => plain_isCell (hp _ c hcm), fun j c hj => ?_⟩
        have hjz : j < z := by have := (List.getElem?_eq_some_iff.1 hj).1; simpa [PV.cells, hk] using this
        have hf := flat d' i j c hjz hi hj
        have hlt2 := flat_lt (n := d'.length) hi hjz
        rw [hl'] at hlt2
        have hcs : off + i * z + j < cs.size := by generalize i * z = q at *; generalize d.length * z = q2 at *; omega
        have hsz2 : i * z + j < d'.length * z := by rw [hl']; exact hlt2
        have hv : (putCells id off (flatK (fun x => (enc x).map toV) z d'.toArray) cs).getD (off + i * z + j) undef = toV c := by
          rw [← hf]
          simp only [putCells, Array.getD_eq_getD_getElem?, Array.getElem?_mapIdx, size_flatK, List.size_toArray]
          rw [Array.getElem?_eq_getElem hcs, Option.map_some, Option.getD_some, if_pos ⟨by omega, by omega⟩]
          rw [show off + i * z + j - off = i * z + j by omega]; rfl
        rw [hv]
        exact toV_vr (hp _ c (List.mem_of_getElem? hj))
theorem vcs0_of (L : SlLaysF0.n6 P ρ) : VCS0 P (ρ.f 6) := fun p cap fv w => AnyF.slices_SortFunc_none L p cap fv w
end Sim
