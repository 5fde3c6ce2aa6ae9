/- TagsCountForgeries, where what it reads is of bulk at most 1048576: the law returns true and its arguments read as they did. -/
import Derived.Test.YtkecimhcoljobaaRows
import Derived.Test.YtkecimhcoljobaaSimY
import Derived.Test.YtkecimhcoljobaaQR
import Derived.ReadAgain
import Derived.JoinedOf
import Derived.JoinedCond
import Derived.WideKeyPair
namespace Go.Proofs.Ytkecimhcoljobaa.tagsForge
open Go Go.ChangeShapes Go.WideShapes Go.ChangeAt Go.RowKit Sim
set_option linter.unusedVariables false
theorem own : ownKnob Try.prog.godebug = Option.none := by kernel_rfl
theorem kids : Kids Try.prog (· < Try.prog.types.size) := kids_rows (by kernel_rfl) (by kernel_rfl)
theorem wideB : ((List.range Try.prog.types.size).all fun t => match Try.prog.underlying t with | some (.slice e) => decide (0 < Try.prog.cellsOf e) | _ => true) = true := by kernel_rfl
theorem wide : ∀ t e, t < Try.prog.types.size → Try.prog.underlying t = some (.slice e) → 0 < Try.prog.cellsOf e := fun t e ht hu => by
  have := List.all_eq_true.1 wideB t (List.mem_range.2 ht)
  rw [hu] at this
  simpa using this
theorem anyR {P : Program} {w : World} {t : TypeId} {α : Type} {f : α → PV} {q : α → Prop} (h : RdC P w t f q) : RdC P w t f (fun _ => True) := fun enc bs spare held fuel cs x hx => by
  obtain ⟨a, _, h1⟩ := h enc bs spare held fuel cs x hx
  exact ⟨a, trivial, h1⟩
theorem r22 (W : World) : RdC Try.prog W 22 (fun l : List Int => ints l) (fun l => ∀ n ∈ l, (Lit.int .i64 n).wf = true) := RdC.slice Try.underlying22 (by kernel_rfl) (by decide) (RdC.int Try.underlying3)
theorem r24 (W : World) : RdC Try.prog W 24 (fun a : List Int × List Int => .agg [ints a.1, ints a.2]) (fun _ => True) :=
  anyR <| RdC.struct2 Try.underlying24 (by kernel_rfl) ⟨rfl, rfl⟩ ⟨by kernel_rfl, by kernel_rfl⟩ (r22 W) (r22 W) (fun _ => rfl) (fun _ => rfl)
theorem r25 (W : World) : RdD Try.prog W 25 (fun l : List (List UInt8) => strs l) (fun l H d => l = [] ∨ ∃ ds sp, d = .slice ds sp ∧ ds.length = l.length ∧ ∀ i (h : i < l.length) (h' : i < ds.length), ds[i] = .lit (.string l[i])) :=
  RdD.slice (z := 1) (q := fun s H d => d = .lit (.string s)) Try.underlying25 (by kernel_rfl) (by decide) (RdD.str Try.underlying9)
theorem r60 (W : World) : RdC Try.prog W 60 (fun a : Int × Int => .agg [I a.1, I a.2]) (fun _ => True) :=
  anyR <| RdC.struct2 Try.underlying60 (by kernel_rfl) ⟨rfl, rfl⟩ ⟨by kernel_rfl, by kernel_rfl⟩ (RdC.int Try.underlying3) (RdC.int Try.underlying3) (fun _ => rfl) (fun _ => rfl)
theorem r26 (W : World) : RdC Try.prog W 26 (fun l : List (Int × Int) => asks l) (fun _ => True) := anyR <| RdC.slice Try.underlying26 (by kernel_rfl) (by decide) (r60 W)
theorem r28 (W : World) : RdC Try.prog W 28 (fun a : List Int × Int => .agg [ints a.1, I a.2]) (fun _ => True) :=
  anyR <| RdC.struct2 Try.underlying28 (by kernel_rfl) ⟨rfl, rfl⟩ ⟨by kernel_rfl, by kernel_rfl⟩ (r22 W) (RdC.int Try.underlying3) (fun _ => rfl) (fun _ => rfl)
theorem d24 (W : World) : RdD Try.prog W 24 (fun a : List Int × List Int => .agg [ints a.1, ints a.2]) (fun _ _ _ => True) := fun enc bs spare held fuel cs x hx => (r24 W) enc bs spare held fuel cs x hx
theorem d26 (W : World) : RdD Try.prog W 26 (fun l : List (Int × Int) => asks l) (fun _ _ _ => True) := fun enc bs spare held fuel cs x hx => (r26 W) enc bs spare held fuel cs x hx
theorem d28 (W : World) : RdD Try.prog W 28 (fun a : List Int × Int => .agg [ints a.1, I a.2]) (fun _ _ _ => True) := fun enc bs spare held fuel cs x hx => (r28 W) enc bs spare held fuel cs x hx
theorem s22 (W : World) : RdC Try.prog W 22 (fun l : List Int => ints l) (fun _ => True) := anyR (r22 W)
theorem d22 (W : World) : RdD Try.prog W 22 (fun l : List Int => ints l) (fun _ _ _ => True) := fun enc bs spare held fuel cs x hx => s22 W enc bs spare held fuel cs x hx
theorem bulk_all {H : Type} {d : DataW H} {ds : List (DataW H)} (h : d ∈ ds) : Rows.uptoBulk d ≤ Rows.uptoBulkAll ds := by
  induction ds with
  | nil => simp at h
  | cons a l ih =>
    simp only [Rows.uptoBulkAll]
    rcases List.mem_cons.1 h with rfl | h
    · omega
    · have := ih h; omega
theorem bulk_strs {H : Type} : ∀ (l : List (List UInt8)) (ds : List (DataW H)), ds.length = l.length → (∀ i (h : i < l.length) (h' : i < ds.length), ds[i] = .lit (.string l[i])) → totB l ≤ Rows.uptoBulkAll ds
  | [], _, _, _ => by simp [totB]
  | a :: l, [], h, _ => by simp at h
  | a :: l, d :: ds, h, g => by
    have h0 := g 0 (by simp) (by simp)
    simp only [List.getElem_cons_zero] at h0
    subst h0
    have := bulk_strs l ds (by simpa using h) fun i hi hi' => by
      have := g (i + 1) (by simp; omega) (by simp; omega)
      simpa using this
    simp only [totB, List.map_cons, List.sum_cons, Rows.uptoBulkAll, Rows.uptoBulk] at this ⊢
    omega
theorem read30 {W : World} {b0 : Nat} {H : Type} {enc : TypeId × Value → H} {v : Value} {d : DataW H} {ps : List MemPlace} (hval : Value.okWide Try.prog W .any b0 30 v) (hd : DataW.Trod enc Try.prog W 0 (fun _ => true) true 30 v d ps) :
    ∃ m s bl tg ak sm t, totB bl ≤ Rows.uptoBulk d ∧ VR (base (full W) W) v (caseV m s bl tg ak sm t) := by
  unfold Value.okWide at hval
  rw [Try.underlying30] at hval
  obtain ⟨cs, rfl, hsz, _⟩ := hval
  obtain ⟨fuel, hd⟩ := hd
  have hcell : Try.prog.cellsOf 30 = 7 := by kernel_rfl
  have k24 : Try.prog.cellsOf 24 = 2 := by kernel_rfl
  have k25 : Try.prog.cellsOf 25 = 1 := by kernel_rfl
  have k22 : Try.prog.cellsOf 22 = 1 := by kernel_rfl
  have k26 : Try.prog.cellsOf 26 = 1 := by kernel_rfl
  have k28 : Try.prog.cellsOf 28 = 2 := by kernel_rfl
  obtain ⟨xs, n, _, hx, hl, hlen, hf⟩ := DataW.trod_struct Try.underlying30 hd
  have hl7 : cs.toList.length = 7 := by rw [Array.length_toList, hsz, hcell]
  match xs, hlen with
  | [y0, y1, y2, y3, y4], _ =>
    have f0 : DataW.trod enc Try.prog W 0 (fun _ => true) true n 24 ((cs.toList.drop 0).take (Try.prog.cellsOf 24)) = some y0 := hf 0 _ rfl
    have f1 : DataW.trod enc Try.prog W 0 (fun _ => true) true n 25 ((cs.toList.drop 2).take (Try.prog.cellsOf 25)) = some y1 := hf 1 _ rfl
    have f2 : DataW.trod enc Try.prog W 0 (fun _ => true) true n 22 ((cs.toList.drop 3).take (Try.prog.cellsOf 22)) = some y2 := hf 2 _ rfl
    have f3 : DataW.trod enc Try.prog W 0 (fun _ => true) true n 26 ((cs.toList.drop 4).take (Try.prog.cellsOf 26)) = some y3 := hf 3 _ rfl
    have f4 : DataW.trod enc Try.prog W 0 (fun _ => true) true n 28 ((cs.toList.drop 5).take (Try.prog.cellsOf 28)) = some y4 := hf 4 _ rfl
    rw [k24] at f0
    rw [k25] at f1
    rw [k22] at f2
    rw [k26] at f3
    rw [k28] at f4
    obtain ⟨⟨m, s⟩, _, _, p0⟩ := RdD.part (f := (fun a : List Int × List Int => .agg [ints a.1, ints a.2])) (q := fun _ _ _ => True) (d24 W) (cs := cs.toList) (o := 0) (n := 2) (by omega) f0
    obtain ⟨bl, hb, _, p1⟩ := RdD.part (f := (fun l : List (List UInt8) => strs l)) (q := fun l H d => l = [] ∨ ∃ ds sp, d = .slice ds sp ∧ ds.length = l.length ∧ ∀ i (h : i < l.length) (h' : i < ds.length), ds[i] = .lit (.string l[i])) (r25 W) (cs := cs.toList) (o := 2) (n := 1) (by omega) f1
    obtain ⟨tg, _, _, p2⟩ := RdD.part (f := (fun l : List Int => ints l)) (q := fun _ _ _ => True) (d22 W) (cs := cs.toList) (o := 3) (n := 1) (by omega) f2
    obtain ⟨ak, _, _, p3⟩ := RdD.part (f := (fun l : List (Int × Int) => asks l)) (q := fun _ _ _ => True) (d26 W) (cs := cs.toList) (o := 4) (n := 1) (by omega) f3
    obtain ⟨⟨sm, t⟩, _, _, p4⟩ := RdD.part (f := (fun a : List Int × Int => .agg [ints a.1, I a.2])) (q := fun _ _ _ => True) (d28 W) (cs := cs.toList) (o := 5) (n := 2) (by omega) f4
    refine ⟨m, s, bl, tg, ak, sm, t, ?_, ?_⟩
    · have hd1 : d = .agg [y0.1, y1.1, y2.1, y3.1, y4.1] := by
        have := congrArg Prod.fst hx
        simpa using this
      have h1 : totB bl ≤ Rows.uptoBulk y1.1 := by
        rcases hb with rfl | ⟨ds, sp, e, hdl, hq⟩
        · simp [totB]
        · rw [e]
          have := bulk_strs bl ds hdl hq
          simp only [Rows.uptoBulk]; omega
      have h2 := bulk_all (d := y1.1) (ds := [y0.1, y1.1, y2.1, y3.1, y4.1]) (by simp)
      rw [hd1]; simp only [Rows.uptoBulk]; omega
    · exact Part.arg (l := [ints m, ints s] ++ ([strs bl] ++ ([ints tg] ++ ([asks ak] ++ [ints sm, I t])))) (p0.append (p1.append (p2.append (p3.append p4)))) (by rw [hsz, hcell]; rfl)
set_option maxRecDepth 100000 in
theorem lifted (os : Os) (started : os.Started) (H : Type) (enc : TypeId × Value → H) (F : Stop.Interp) :
    ReturnsInHanded {} Try.checked os 3 .any ((Rows.OpenSpec.upto Rows.tagsCountForgeriesSpec).pre6 enc Try.prog Try.f3 Rows.tagsCountForgeriesUptoRow.domain false) (((Rows.OpenSpec.upto Rows.tagsCountForgeriesSpec).at F).post enc Try.prog Try.f3 false true false false) := by
  refine returnsInHanded_of_cond (C := Try.checked) (s := Rows.OpenSpec.upto Rows.tagsCountForgeriesSpec) (k := Rows.uptoSmall) rfl own started (by kernel_rfl) Try.func3
    (OpenSpec.witness (enc := enc) (C := Try.checked) (s := Rows.OpenSpec.upto Rows.tagsCountForgeriesSpec) (k := Rows.uptoSmall) rfl false ⟨#[], #[.agg #[.slice Option.none 0 0, .slice Option.none 0 0, .slice Option.none 0 0, .slice Option.none 0 0, .slice Option.none 0 0, .slice Option.none 0 0, .int .i64 0], .int .u8 0, .int .u32 0], []⟩ 8 (by kernel_rfl) (by kernel_rfl) (by kernel_rfl)
      (x := ([.agg [.agg [.nil, .nil], .nil, .nil, .nil, .agg [.nil, .lit (.int .i64 0)]], .lit (.int .u8 0), .lit (.int .u32 0)], [], [])) (by kernel_rfl) rfl (by kernel_rfl)) ?_
  intro W base args ds gs before hval0 hW hcnd hk _
  have hval : ∀ (j : Nat) t v, Try.f3.params[j]? = some t → args[j]? = some v → Value.okWide Try.prog W .any base t v := hval0
  have hW' := hW
  obtain ⟨p, q, hA0, hV, rfl, hfz, hnd⟩ := hW
  have hA : DataW.TrodAll enc Try.prog W 0 (fun _ => true) true Try.f3.params.toList args.toList ds p := hA0
  rw [Try.params3] at hA hval
  obtain ⟨v0, vs0, d0, ds0, p0, q0, hargs, rfl, rfl, h0, r0⟩ := trodAll_cons hA
  obtain ⟨v1, vs1, d1, ds1, p1, q1, rfl, rfl, rfl, h1, r1⟩ := trodAll_cons r0
  obtain ⟨v2, vs2, d2, ds2, p2, q2, rfl, rfl, rfl, h2, r2⟩ := trodAll_cons r1
  obtain ⟨rfl, rfl, rfl⟩ := trodAll_nil r2
  obtain rfl : args = #[v0, v1, v2] := by cases args; simp_all
  obtain ⟨rfl, rfl⟩ := trodVars_none hV
  obtain ⟨m, s, bl, tg, ak, sm, t, hbk, hl⟩ := read30 (hval 0 30 v0 rfl rfl) h0
  obtain ⟨y, rfl, _, _, w0⟩ := open_int Try.underlying5 (hval 1 5 v1 rfl rfl) h1
  obtain ⟨v, rfl, _, _, w1⟩ := open_int Try.underlying31 (hval 2 31 v2 rfl rfl) h2
  have w0' : 0 ≤ y ∧ y ≤ 255 := by simpa [Lit.wf, IntKind.min, IntKind.max, IntKind.signed, IntKind.bits] using w0
  have w1' : 0 ≤ v ∧ v ≤ 4294967295 := by simpa [Lit.wf, IntKind.min, IntKind.max, IntKind.signed, IntKind.bits] using w1
  obtain ⟨y, rfl⟩ := Int.eq_ofNat_of_zero_le w0'.1
  obtain ⟨v, rfl⟩ := Int.eq_ofNat_of_zero_le w1'.1
  have hbulk : totB bl ≤ 1048576 := by
    have := of_decide_eq_true hk
    simp only [List.append_nil, Rows.uptoBulkAll] at this
    omega
  refine ((c_forge m s bl tg ak sm t y v ⟨by omega, by omega, by omega⟩).2 (full W) W #[v0, .int .u8 y, .int .u32 v] (fun _ _ _ h => h) ⟨rfl, fun i p hp => ?_⟩).mono fun e W' ⟨v, he, hfr, hold, hsz, hv⟩ => ?_
  · match i, hp with
    | 0, hp => simp at hp; subst hp; exact hl
    | 1, hp => simp at hp; subst hp; exact .int _ _
    | 2, hp => simp at hp; subst hp; exact .int _ _
    | i + 3, hp => simp at hp
  · subst he
    have e := inv_bool hv
    subst e
    exact ⟨_, rfl, post_keep kids wide (by rw [Try.params3]; decide +kernel) rfl hW' hfr hold rfl rfl (fun _ _ _ => trodAll_mk1 (shut_bool Try.underlying4 _)) (ok_one (by kernel_rfl) rfl (okWide_bool_mk Try.underlying4 _))⟩
theorem proved : Rows.TagsCountForgeriesUptoSaid :=
  OpenClaim.holds_of_cond 3 Try.f3 rfl rfl rfl rfl rfl rfl rfl ⟨rfl, rfl, rfl, rfl, rfl⟩ rfl rfl rfl rfl rfl (by kernel_rfl) Try.func3 (by kernel_rfl)
    (of_decide_eq_true (by kernel_rfl)) (by unfold Func.isWrapper; first | (rw [if_pos (by decide +kernel)]; kernel_rfl) | (rw [if_neg (by decide +kernel)]; exact ⟨rfl, rfl⟩))
    (fun os started H enc _ F => lifted os started H enc F)
end Go.Proofs.Ytkecimhcoljobaa.tagsForge
