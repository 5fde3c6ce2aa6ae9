/- What symbolic runs are written with: encodings, contracts as table entries, small laws. -/
import Derived.Test.YtbojbamchaohpaaSimO
namespace Sim
open Go
set_option linter.unusedVariables false
set_option linter.unusedSimpArgs false
abbrev I (n : Int) : PV := .int .i64 n
abbrev B (b : Bool) : PV := .bool b
@[reducible] def ints (l : List Int) : PV := .lits 1 (l.map (PV.int .i64))
theorem cfg_P {P : Program} {l : Entries} {m f : List Nat} {dp : Nat} {yl : Option (Nat × Hook)} {rnd : Bool} : (cfg P l m f dp yl rnd).P = P := nrfl rfl
theorem cfg_tab {P : Program} {l : Entries} {m f : List Nat} {dp : Nat} {yl : Option (Nat × Hook)} {rnd : Bool} : (cfg P l m f dp yl rnd).tab = tabOf l := nrfl rfl
theorem cfg_muts {P : Program} {l : Entries} {m f : List Nat} {dp : Nat} {yl : Option (Nat × Hook)} {rnd : Bool} {d : Nat} : (cfg P l m f dp yl rnd).muts d = m.contains d := nrfl rfl
theorem cfg_num {P : Program} {l : Entries} {m f : List Nat} {dp : Nat} {yl : Option (Nat × Hook)} {rnd : Bool} {d : Nat} : (cfg P l m f dp yl rnd).num d = numOf f d := nrfl rfl
theorem numOf_eq {f : List Nat} {d : Nat} : numOf f d = if f.contains (100000 + d) then 1 else if f.contains (200000 + d) then 2 else if f.contains (300000 + d) then 3 else if f.contains (500000 + d) then 4 else 0 := nrfl rfl
theorem cfg_frz {P : Program} {l : Entries} {m f : List Nat} {dp : Nat} {yl : Option (Nat × Hook)} {rnd : Bool} {d : Nat} : (cfg P l m f dp yl rnd).frz d = f.contains d := nrfl rfl
theorem tabOf_cons {g f : Nat} {e : Ent} {l : Entries} {args : List PV} {st : Store} : tabOf ((g, e) :: l) f args st = if g = f then e.tab args st else tabOf l f args st := by
 unfold tabOf
 by_cases h : g = f
 ·subst h; simp
 ·simp [h]
theorem tab_v {spec : List PV → Option PV} {args : List PV} {st : Store} : (Ent.v spec).tab args st = valT spec args st := nrfl rfl
theorem tab_a {z : Nat} {spec : List PV → Option (List PV)} {args : List PV} {st : Store} : (Ent.a z spec).tab args st = if pursL args = true then (spec args).map fun es => (.ref st.next 0 0 es.length, st.new (.arr 0 z es)) else none := nrfl rfl
theorem tab_x {spec : List PV → Store → Option (PV × Store)} {args : List PV} {st : Store} : (Ent.x spec).tab args st = spec args st := nrfl rfl
theorem tab_c {spec : List PV → (Nat → Option IObj) → Option PV} {args : List PV} {st : Store} : (Ent.c spec).tab args st = (spec args st.obj).map fun r => (r, st) := nrfl rfl
noncomputable def specOf {ι ω : Type} (A : ι → List PV) (R : ι → ω) (H : ι → Prop) (args : List PV) : Option ω :=
 open Classical in if h : ∃ i, A i = args ∧ H i then some (R h.choose) else none
theorem specOf_app {ι ω : Type} {A : ι → List PV} {R : ι → ω} {H : ι → Prop} (hinj : ∀ i j, A i = A j → i = j) {i : ι} (hi : H i) : specOf A R H (A i) = some (R i) := by
 unfold specOf
 have h : ∃ j, A j = A i ∧ H j := ⟨i, rfl, hi⟩
 rw [dif_pos h, hinj _ _ h.choose_spec.1]
theorem specOf_if {ι ω : Type} {A : ι → List PV} {R : ι → ω} {H : ι → Prop} (hinj : ∀ i j, A i = A j → i = j) (i : ι) : specOf A R H (A i) = @ite (Option ω) (H i) (Classical.propDecidable _) (some (R i)) none := by
 by_cases h : H i
 ·rw [if_pos h]; exact specOf_app hinj h
 ·rw [if_neg h]
  unfold specOf
  rw [dif_neg]
  rintro ⟨j, hj, hh⟩
  rw [hinj _ _ hj] at hh
  exact h hh
theorem specOf_ok {P : Program} {f : FuncId} {ι : Type} {A : ι → List PV} {R : ι → PV} {H : ι → Prop} (hok : ∀ i, H i → VC P f (A i) (R i)) : EntOK P f (.v (specOf A R H)) := by
 intro args r h
 unfold specOf at h
 split at h
 ·rename_i hx
  simp only [Option.some.injEq] at h; subst h
  have := hok _ hx.choose_spec.2
  rw [hx.choose_spec.1] at this; exact this
 ·cases h
theorem specOf_okA {P : Program} {f : FuncId} {ι : Type} {A : ι → List PV} {z : Nat} {R : ι → List PV} {H : ι → Prop} (hok : ∀ i, H i → VCA P f (A i) z (R i)) : EntOK P f (.a z (specOf A R H)) := by
 intro args r h
 unfold specOf at h
 split at h
 ·rename_i hx
  simp only [Option.some.injEq] at h; subst h
  have := hok _ hx.choose_spec.2
  rw [hx.choose_spec.1] at this; exact this
 ·cases h
theorem eok_nil {P : Program} : EntriesOK P [] := by intro e h; simp at h
theorem eok_cons {P : Program} {f : Nat} {x : Ent} {l : Entries} (h : EntOK P f x) (hl : EntriesOK P l) : EntriesOK P ((f, x) :: l) := by
 intro e he
 rcases List.mem_cons.1 he with rfl | he
 ·exact h
 ·exact hl e he
theorem map_inj' {α β : Type} {f : α → β} (hf : ∀ x y, f x = f y → x = y) : ∀ {l m : List α}, l.map f = m.map f → l = m
 | [], [], _ => rfl
 | [], b :: m, h => by simp at h
 | a :: l, [], h => by simp at h
 | a :: l, b :: m, h => by
  simp only [List.map_cons, List.cons.injEq] at h
  rw [hf _ _ h.1, map_inj' hf h.2]
theorem inj_ints {k : IntKind} {l m : List Int} : (l.map (PV.int k) = m.map (PV.int k)) = (l = m) := propext ⟨map_inj' fun x y h => by injection h, fun h => by rw [h]⟩
theorem inj_strs {l m : List (List UInt8)} : (l.map PV.str = m.map PV.str) = (l = m) := propext ⟨map_inj' fun x y h => by injection h, fun h => by rw [h]⟩
theorem pur_ints {k : IntKind} {l : List Int} : pursL (l.map (PV.int k)) = true := pursL_map fun _ => rfl
theorem inj : True = True := nrfl rfl
theorem nth_int {k : IntKind} {l : List Int} {i : Nat} (h : i < l.length) : nth (l.map (PV.int k)) i = PV.int k (l.getD i 0) := by simp [nth, h]
theorem nth_zero {a : PV} {l : List PV} : nth (a :: l) 0 = a := nrfl rfl
theorem take_map_len {α β : Type} {f : α → β} {l : List α} : (l.map f).take l.length = l.map f := by rw [← List.length_map (f := f)]; exact List.take_length
def GS (st : Store) (p : PV) (id z : Nat) (es : List PV) : Prop := ∃ g, p = .ref id g 0 es.length ∧ st.obj id = some (.arr g z es)
theorem GS_ref {st : Store} {id' g n id z : Nat} {es : List PV} : GS st (.ref id' g 0 n) id z es = (id' = id ∧ n = es.length ∧ st.obj id = some (.arr g z es)) := by
 refine propext ⟨?_, ?_⟩
 ·rintro ⟨g', h1, h2⟩; cases h1; exact ⟨rfl, rfl, h2⟩
 ·rintro ⟨rfl, rfl, h⟩; exact ⟨g, rfl, h⟩
theorem updO_same {f : Nat → Option IObj} {id : Nat} {o : Option IObj} : updO f id o id = o := by simp [updO]
theorem updO_ne {f : Nat → Option IObj} {id i : Nat} {o : Option IObj} (h : (i == id) = false) : updO f id o i = f i := by
 have : i ≠ id := by simpa using h
 simp [updO, this]
theorem DR.int {st : Store} {k : IntKind} {a b : Int} (h : a = b) : DR st (.int k a) (.int k b) := h ▸ .pure _ rfl
theorem DR.bool {st : Store} {a b : Bool} (h : a = b) : DR st (.bool a) (.bool b) := h ▸ .pure _ rfl
inductive DRs (st : Store) : List PV → List PV → Prop where
 | nil : DRs st [] []
 | cons {a b : PV} {l m : List PV} (h : DR st a b) (hb : b.isCell = true) (t : DRs st l m) : DRs st (a :: l) (b :: m)
theorem DRs.get {st : Store} {l m : List PV} (h : DRs st l m) : l.length = m.length ∧ (∀ c ∈ m, c.isCell = true) ∧ ∀ (i : Nat) (c d : PV), l[i]? = some c → m[i]? = some d → DR st c d := by
 induction h with
 | nil => exact ⟨rfl, by simp, by intro i c d h; simp at h⟩
 | cons h hb t ih =>
  refine ⟨by simp [ih.1], fun c hc => ?_, fun i c d hc hd => ?_⟩
  ·rcases List.mem_cons.1 hc with rfl | hc
   ·exact hb
   ·exact ih.2.1 c hc
  ·cases i with
   | zero => simp at hc hd; subst hc; subst hd; exact h
   | succ i => exact ih.2.2 i c d (by simpa using hc) (by simpa using hd)
theorem wrap64 {n : Int} (h1 : -9223372036854775808 ≤ n) (h2 : n ≤ 9223372036854775807) : IntKind.i64.wrap n = n := by rw [IntKind.wrap_i64]; omega
theorem not_dec {p : Prop} [Decidable p] : (!decide p) = decide (¬ p) := by by_cases h : p <;> simp [h]
def havoc (W : List Nat) (ρ0 ρ : Nat → PV) : Nat → PV := fun t => if W.contains t = true then ρ t else ρ0 t
theorem havoc_in {W : List Nat} {ρ0 ρ : Nat → PV} {t : Nat} (h : W.contains t = true) : havoc W ρ0 ρ t = ρ t := by simp only [havoc, h, if_true]
theorem havoc_out {W : List Nat} {ρ0 ρ : Nat → PV} {t : Nat} (h : W.contains t = false) : havoc W ρ0 ρ t = ρ0 t := by simp only [havoc, h, Bool.false_eq_true, if_false]
def agree (W : List Nat) (ρ0 ρ : Nat → PV) : Prop := ∀ t, W.contains t = false → ρ t = ρ0 t
theorem agree_upd {W : List Nat} {ρ0 ρ : Nat → PV} {t : Nat} {v : PV} (h : W.contains t = true) : agree W ρ0 (upd ρ t v) = agree W ρ0 ρ := by
 refine propext ⟨fun g u hu => ?_, fun g u hu => ?_⟩
 all_goals
  have hne : u ≠ t := fun e => by subst e; rw [h] at hu; cases hu
  have := g u hu
  simpa [upd, hne] using this
theorem agree_havoc {W : List Nat} {ρ0 ρ : Nat → PV} : agree W ρ0 (havoc W ρ0 ρ) = True := eq_true fun t ht => havoc_out ht
theorem havoc_of_agree {W : List Nat} {ρ0 ρ : Nat → PV} (h : agree W ρ0 ρ) : ρ = havoc W ρ0 ρ := by
 funext t
 cases hc : W.contains t with
 | true => rw [havoc_in hc]
 | false => rw [havoc_out hc, h t hc]
section
variable {X : Cfg} {N : Nat} {Q : IExit → IState → Prop} {ks : List Kf}
theorem loop_cnt {c : Code} (W : List Nat) (n : Nat) (J : Nat → (Nat → PV) → Store → Prop) {ρ0 ρ1 : Nat → PV} {st st1 : Store} (hg : Ghost ⟨ρ0, st⟩ ⟨ρ1, st1⟩) (h0 : J 0 ρ1 st1)
  (h : ∀ k ρ st', k ≤ n → J k ρ st' → run X N Q c (.lp (fun s'' => k < n ∧ agree W ρ1 s''.env ∧ J (k + 1) s''.env s''.st) :: ks) ⟨havoc W ρ1 ρ, st'⟩) (hm : HookMono X := by first | assumption | exact hookMono_none rfl) : run X N Q (.loop c) ks ⟨ρ0, st⟩ := by
 refine run_loop_cnt hm n (fun k s => agree W ρ1 s.env ∧ J k s.env s.st) hg ⟨fun _ _ => rfl, h0⟩ ?_
 rintro k ⟨env, st'⟩ hk ⟨ha, hJ⟩
 dsimp only at ha hJ
 have := h k env st' hk hJ
 rwa [← havoc_of_agree ha] at this
theorem loop_meas {c : Code} (W : List Nat) (n : Nat) (J : Nat → (Nat → PV) → Store → Prop) {ρ0 ρ1 : Nat → PV} {st st1 : Store} (hg : Ghost ⟨ρ0, st⟩ ⟨ρ1, st1⟩) (h0 : J n ρ1 st1)
  (h : ∀ m ρ st', J m ρ st' → run X N Q c (.lp (fun s'' => ∃ m', m' < m ∧ agree W ρ1 s''.env ∧ J m' s''.env s''.st) :: ks) ⟨havoc W ρ1 ρ, st'⟩) (hm : HookMono X := by first | assumption | exact hookMono_none rfl) : run X N Q (.loop c) ks ⟨ρ0, st⟩ := by
 refine run_loop (fun m s => agree W ρ1 s.env ∧ J m s.env s.st) n hg ⟨fun _ _ => rfl, h0⟩ ?_
 rintro m ⟨env, st'⟩ ⟨ha, hJ⟩
 dsimp only at ha hJ
 have := run_mono_lp hm (fun s'' ⟨m', h1, h2⟩ => (⟨m', h1, s'', .refl _, h2⟩ : ∃ m', m' < m ∧ ∃ s3, Ghost s'' s3 ∧ (agree W ρ1 s3.env ∧ J m' s3.env s3.st))) (h m env st' hJ)
 rwa [← havoc_of_agree ha] at this
end
mutual
def DRx (st : Store) : PV → PV → Prop
 | .int k a, .int k' b => k = k' ∧ a = b
 | .bool a, .bool b => a = b
 | .str a, .str b => a = b
 | .nils, .lits _ l => l = []
 | .lits z l, .lits z' m => z = z' ∧ l = m ∧ pursL m = true
 | .ref id gen s n, .lits z l => ∃ es, st.arr? id gen = some (z, es) ∧ s + n ≤ es.length ∧ pursL es = true ∧ (es.drop s).take n = l
 | .agg cs, .agg ds => (∀ c ∈ ds, c.isCell = true) ∧ DRxL st cs ds
 | .tuple cs, .tuple ds => DRxL st cs ds
 | p, q => p = q ∧ q.pur = true
def DRxL (st : Store) : List PV → List PV → Prop
 | [], [] => True
 | a :: l, b :: m => DRx st a b ∧ DRxL st l m
 | _, _ => False
end
theorem rd_DR {st : Store} {id gen s n z : Nat} {es : List PV} (h : st.arr? id gen = some (z, es)) (hn : s + n ≤ es.length) (hp : pursL es = true) : DR st (.ref id gen s n) (.lits z ((es.drop s).take n)) :=
 rdC_DR (by simp [rdC, h, hn, hp])
mutual
theorem DRx.sound {st : Store} : ∀ {p q : PV}, DRx st p q → DR st p q
 | .int k a, q, h => by
  cases q <;> simp only [DRx, reduceCtorEq, false_and] at h
  obtain ⟨rfl, rfl⟩ := h; exact .pure _ rfl
 | .bool a, q, h => by
  cases q <;> simp only [DRx, reduceCtorEq, false_and] at h
  subst h; exact .pure _ rfl
 | .str a, q, h => by
  cases q <;> simp only [DRx, reduceCtorEq, false_and] at h
  subst h; exact .pure _ rfl
 | .nils, q, h => by
  cases q <;> simp only [DRx, reduceCtorEq, false_and] at h
  ·exact .pure _ rfl
  ·subst h; exact .nils _
 | .lits z l, q, h => by
  cases q <;> simp only [DRx, reduceCtorEq, false_and] at h
  obtain ⟨rfl, rfl, hp⟩ := h; exact .pure _ hp
 | .ref id gen s n, q, h => by
  cases q <;> simp only [DRx, reduceCtorEq, false_and] at h
  ·obtain ⟨es, h1, h2, h3, rfl⟩ := h; exact rd_DR h1 h2 h3
  ·simp [PV.pur] at h
 | .agg cs, q, h => by
  cases q <;> simp only [DRx, reduceCtorEq, false_and] at h
  exact .agg _ _ (DRxL.sound h.2).1 h.1 (DRxL.sound h.2).2
 | .tuple cs, q, h => by
  cases q <;> simp only [DRx, reduceCtorEq, false_and] at h
  exact .tuple _ _ (DRxL.sound h).1 (DRxL.sound h).2
 | .bad, q, h => by cases q <;> simp only [DRx, reduceCtorEq, false_and] at h <;> simp [PV.pur] at h
 | .nilp, q, h => by cases q <;> simp only [DRx, reduceCtorEq, false_and] at h; exact .pure _ rfl
 | .ptr .., q, h => by cases q <;> simp only [DRx, reduceCtorEq, false_and] at h; simp [PV.pur] at h
 | .vptr .., q, h => by cases q <;> simp only [DRx, reduceCtorEq, false_and] at h; rw [h.1]; exact .pure _ h.2
 | .func .., q, h => by cases q <;> simp only [DRx, reduceCtorEq, false_and] at h; rw [h.1]; exact .pure _ h.2
 | .nilf, q, h => by cases q <;> simp only [DRx, reduceCtorEq, false_and] at h; exact .pure _ rfl
 | .iface .., q, h => by cases q <;> simp only [DRx, reduceCtorEq, false_and] at h; rw [h.1]; exact .pure _ h.2
 | .nili, q, h => by cases q <;> simp only [DRx, reduceCtorEq, false_and] at h; exact .pure _ rfl
 | .nilm, q, h => by cases q <;> simp only [DRx, reduceCtorEq, false_and] at h; exact .pure _ rfl
 | .mref .., q, h => by cases q <;> simp only [DRx, reduceCtorEq, false_and] at h; simp [PV.pur] at h
 | .iter .., q, h => by cases q <;> simp only [DRx, reduceCtorEq, false_and] at h; simp [PV.pur] at h
theorem DRxL.sound {st : Store} : ∀ {l m : List PV}, DRxL st l m → l.length = m.length ∧ ∀ (i : Nat) (c d : PV), l[i]? = some c → m[i]? = some d → DR st c d
 | [], m, h => by
  cases m <;> simp only [DRxL] at h
  exact ⟨rfl, by intro i c d h; simp at h⟩
 | a :: l, m, h => by
  cases m <;> simp only [DRxL] at h
  obtain ⟨h1, h2⟩ := DRxL.sound h.2
  refine ⟨by simp [h1], fun i c d hc hd => ?_⟩
  cases i with
  | zero => simp at hc hd; subst hc; subst hd; exact DRx.sound h.1
  | succ i => exact h2 i c d (by simpa using hc) (by simpa using hd)
end
theorem cells_bool (b : Bool) : PV.cells (PV.bool b) = [(PV.bool b)] := nrfl rfl
theorem pur_bool (b : Bool) : PV.pur (PV.bool b) = true := by simp only [PV.pur]
theorem cells_int (k : IntKind) (n : Int) : PV.cells (PV.int k n) = [(PV.int k n)] := nrfl rfl
theorem pur_int (k : IntKind) (n : Int) : PV.pur (PV.int k n) = true := by simp only [PV.pur]
theorem isCell_int (k : IntKind) (n : Int) : PV.isCell (PV.int k n) = true := nrfl rfl
theorem cells_nilp  : PV.cells PV.nilp = [PV.nilp] := nrfl rfl
theorem cells_ptr (i g x o : Nat) : PV.cells (PV.ptr i g x o) = [(PV.ptr i g x o)] := nrfl rfl
theorem pur_vptr (cs : List PV) (o : Nat) : PV.pur (PV.vptr cs o) = pursL cs := by simp only [PV.pur]
theorem cells_nils  : PV.cells PV.nils = [PV.nils] := nrfl rfl
theorem cells_lits (z : Nat) (l : List PV) : PV.cells (PV.lits z l) = [(PV.lits z l)] := nrfl rfl
theorem pur_lits (z : Nat) (l : List PV) : PV.pur (PV.lits z l) = pursL l := by simp only [PV.pur]
theorem isCell_lits (z : Nat) (l : List PV) : PV.isCell (PV.lits z l) = true := nrfl rfl
theorem cells_ref (i g s n : Nat) : PV.cells (PV.ref i g s n) = [(PV.ref i g s n)] := nrfl rfl
theorem pur_ref (i g s n : Nat) : PV.pur (PV.ref i g s n) = false := by simp only [PV.pur]
theorem pur_func (f : Fn) (a b : List PV) : PV.pur (PV.func f a b) = (pursL a && pursL b) := by simp only [PV.pur]
theorem cells_agg (l : List PV) : PV.cells (PV.agg l) = l := nrfl rfl
theorem pur_agg (l : List PV) : PV.pur (PV.agg l) = pursL l := by simp only [PV.pur]
theorem DRx_int (st : Store) (k k2 : IntKind) (a b : Int) : DRx st (.int k a) (.int k2 b) = (k = k2 ∧ a = b) := by rw [DRx]
theorem DRx_bool (st : Store) (a b : Bool) : DRx st (.bool a) (.bool b) = (a = b) := by rw [DRx]
theorem DRx_nils_lits (st : Store) (z : Nat) (l : List PV) : DRx st .nils (.lits z l) = (l = []) := by rw [DRx]
theorem DRx_ref (st : Store) (i g s n z : Nat) (l : List PV) : DRx st (.ref i g s n) (.lits z l) = ∃ es, st.arr? i g = some (z, es) ∧ s + n ≤ es.length ∧ pursL es = true ∧ (es.drop s).take n = l := by rw [DRx]
theorem DRx_agg (st : Store) (l m : List PV) : DRx st (.agg l) (.agg m) = (m.all PV.isCell = true ∧ DRxL st l m) := by rw [DRx, List.all_eq_true]
theorem DRx_tuple (st : Store) (l m : List PV) : DRx st (.tuple l) (.tuple m) = DRxL st l m := by rw [DRx]
theorem DRxL_cons (st : Store) (a b : PV) (l m : List PV) : DRxL st (a :: l) (b :: m) = (DRx st a b ∧ DRxL st l m) := by rw [DRxL]
theorem DRxL_nil (st : Store) : DRxL st [] [] = True := by rw [DRxL]
theorem run_mono_end {X : Cfg} (hm : HookMono X) {N : Nat} {Q Q' : IExit → IState → Prop} {c : Code} {s : IState} (h : ∀ e s, Q e s → Q' e s) (hr : run X N Q c [] s) : run X N Q' c [] s := wpI_mono' hm h hr
theorem vc_of {P : Program} (hmix : P.follows .mixedOrders = true) {l : Entries} (hl : EntriesOK P l) (muts : List Nat) (frz : List Nat) {f : FuncId} {fn : Func} {c : Code} (hf : P.funcs[f]? = some fn) (hb : fn.body = some c)
  (hname : (fn.name == "runtime.NumGoroutine") = false) {args : List PV} {N : Nat} (hN : fn.ntmps = N) (hn : args.length ≤ N) {rs : List ResultVar} (hrs : fn.results.toList = rs) {r : PV} (n : Nat) {dep : Nat}
  (h : smallL args → run (cfg P l muts frz dep) N (endQ P rs (fun p st => DRx st p r)) c [] ⟨env0 args, stR n⟩) : VC P f args r :=
 vc_of' hmix hl muts frz hf hb hname hN hn hrs n fun hs => run_mono_end (hookMono_none rfl) (fun e s hq => by
  cases e with
  | normal => obtain ⟨p, h1, h2⟩ := hq; exact ⟨p, h1, h2.sound⟩
  | exit i => exact hq.elim
  | ret => obtain ⟨p, h1, h2⟩ := hq; exact ⟨p, h1, h2.sound⟩) (h hs)
end Sim
